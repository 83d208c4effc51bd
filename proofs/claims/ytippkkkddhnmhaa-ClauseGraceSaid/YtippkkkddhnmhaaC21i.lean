/-
  Chapter 21: the reference's Next and Days. Conditions: lists that are not too long, integers within their kinds.
-/
import Derived.Test.YtippkkkddhnmhaaC21h
import Derived.Test.YtippkkkddhnmhaaC21f
namespace Go.Proofs.Ytippkkkddhnmhaa.Bm
open Go Go.RowKit

theorem frz_ints {p : Plan} {x : Bool} (l : List Int) : ∃ o2, belowO 2 o2 = true ∧
    freezeV E.P depth 0 [.cells 30 (p.cells x) 0, .cells 3 (l.map (.int .i64)) 1] (.slice (some ⟨1, 0, some l.length⟩) l.length l.length) = some (lst false (l.map (.int .i64)), [.cells 30 (p.cells x) 0, o2]) := by
  have fz := frz_one8 (P := E.P) (lo := 0) (h := [.cells 30 (p.cells x) 0, .cells 3 (l.map (.int .i64)) 1]) (b := 1) (k := l.length) (len := l.length) (cap := l.length) (t := 3) (l := l.map (.int .i64)) rfl s3 a3 (Nat.zero_le _) (by simp) (by simp) (by simp [List.all_eq_true])
  rw [fz]
  by_cases h : l.length = 0
  · exact ⟨.cells 3 (l.map (.int .i64)) 1, by simp [belO_cells, List.all_eq_true], by rw [if_pos h]⟩
  · exact ⟨.dead, rfl, by rw [if_neg h]; rfl⟩

theorem vals_cons (r : Rule) (l : List Rule) : vals (r :: l) = (if r.un = 0 then r.fr :: vals l else r.fr :: r.un :: vals l) := by
  unfold vals
  rw [List.flatMap_cons]
  split <;> rfl

theorem next_ref (x : Bool) (p : Plan) (day : Int) (hp : p.rules.length ≤ 1000000) :
    pureCall E.P (L E) 11 [p.val x, .int .i64 day] = some (.tuple #[.int .i64 (nextN p day).1, .bool (nextN p day).2]) := by
  rw [pureCall_fn F11 rfl]
  have hnx : nextN p day = (vals p.rules).foldl (tryN day) (0, false) := next_vals day p.rules (0, false)
  have hvl : (vals p.rules).length ≤ 2 * p.rules.length := by
    have : ∀ l : List Rule, (vals l).length ≤ 2 * l.length := by
      intro l
      induction l with
      | nil => simp [vals]
      | cons r l ih => rw [vals_cons]; split <;> simp <;> omega
    exact this _
  simp -implicitDefEqProofs [r11, padS, Plan.val, prep1, s3, Plan.cells]
  rw [LL_rec (α := Nat × List Int) (0, []) (fun a => [(6, .slice (some ⟨1, 0, some a.2.length⟩) a.2.length a.2.length), (7, .int .i64 a.1)]) (fun a => [.cells 30 (p.cells x) 0, .cells 3 (a.2.map (.int .i64)) 1])
    (fun a => let o := a.2 ++ vals (p.rules.drop a.1)
      (.exit 0, [(6, .slice (some ⟨1, 0, some o.length⟩) o.length o.length), (7, undef)], [.cells 30 (p.cells x) 0, .cells 3 (o.map (.int .i64)) 1]))
    (fun a => a.1 ≤ p.rules.length ∧ a.2.length ≤ 2 * a.1) (fun a => p.rules.length - a.1)]
  · obtain ⟨o2, hb2, fz⟩ := frz_ints (p := p) (x := x) (vals p.rules)
    simp -implicitDefEqProofs [Plan.cells] at fz
    simp -implicitDefEqProofs [k11_3, prep1, Plan.cells, fz]
    rw [hnx]
    generalize vals p.rules = V at *
    rw [LL_rec (α := Nat × Int × Bool) (0, 0, false) (fun a => [(8, .int .i64 a.2.1), (9, .bool a.2.2), (10, .int .i64 a.1)]) (fun _ => [.cells 30 (p.cells x) 0, o2])
      (fun a => let s := (V.drop a.1).foldl (tryN day) a.2
        (.exit 2, [(8, .int .i64 s.1), (9, .bool s.2), (10, undef)], [.cells 30 (p.cells x) 0, o2]))
      (fun a => a.1 ≤ V.length) (fun a => V.length - a.1)]
    · simp -implicitDefEqProofs [k11_11]
    · simp
    · simp -implicitDefEqProofs [k11_11]
    · rfl
    · intro nx a hi ih
      obtain ⟨i, n, f⟩ := a
      simp only at hi
      simp only [k11_11] at ih
      simp -implicitDefEqProofs [r11_11, k11_11, Plan.cells]
      by_cases h : i < V.length
      · have hd : V.drop i = V[i] :: V.drop (i + 1) := List.drop_eq_getElem_cons h
        have hw := wrap64 (z := (i : Int) + 1) (by omega) (by omega)
        have hf : (V.drop i).foldl (tryN day) (n, f) = (V.drop (i + 1)).foldl (tryN day) (tryN day (n, f) V[i]) := by rw [hd]; rfl
        have ih := ih (i + 1, tryN day (n, f) V[i]) (by simp; omega) (by simp; omega)
        rw [hf]
        simp -implicitDefEqProofs [Plan.cells] at ih
        simp -implicitDefEqProofs [h]
        by_cases h1 : day < V[i]
        · cases f
          · have e : tryN day (n, false) V[i] = (V[i], true) := by simp [tryN, h1]
            rw [e] at ih ⊢
            dsimp only at ih
            simp -implicitDefEqProofs [h, h1, hw, trim_le]
            exact ih
          · by_cases h2 : V[i] < n
            · have e : tryN day (n, true) V[i] = (V[i], true) := by simp [tryN, h1, h2]
              rw [e] at ih ⊢
              dsimp only at ih
              simp -implicitDefEqProofs [h, h1, h2, hw, trim_le]
              exact ih
            · have e : tryN day (n, true) V[i] = (n, true) := by simp [tryN, h2]
              rw [e] at ih ⊢
              dsimp only at ih
              simp -implicitDefEqProofs [h, h1, h2, hw, trim_le]
              exact ih
        · have e : tryN day (n, f) V[i] = (n, f) := by simp [tryN, h1]
          rw [e] at ih ⊢
          dsimp only at ih
          simp -implicitDefEqProofs [h1, hw, trim_le]
          exact ih
      · have hd : V.drop i = [] := List.drop_eq_nil_of_le (by omega)
        simp -implicitDefEqProofs [h, hd, trim_le]
  · simp
  · simp -implicitDefEqProofs [k11_3]
  · rfl
  · intro nx a ⟨hi, ho⟩ ih
    obtain ⟨i, out⟩ := a
    simp only at hi ho
    simp only [k11_3] at ih
    simp -implicitDefEqProofs [r11_3, k11_3, Plan.cells]
    by_cases h : i < p.rules.length
    · have hd : p.rules.drop i = p.rules[i] :: p.rules.drop (i + 1) := List.drop_eq_getElem_cons h
      have hw := wrap64 (z := (i : Int) + 1) (by omega) (by omega)
      have hv := vals_cons p.rules[i] (p.rules.drop (i + 1))
      rw [← hd] at hv
      have ih1 := ih (i + 1, out ++ [p.rules[i].fr]) (by simp; omega) ⟨by simp; omega, by simp; omega⟩
      have ih2 := ih (i + 1, out ++ [p.rules[i].fr, p.rules[i].un]) (by simp; omega) ⟨by simp; omega, by simp; omega⟩
      simp -implicitDefEqProofs [Plan.cells] at ih1 ih2
      clear ih
      simp -implicitDefEqProofs [h]
      have hbd : (out.length + 1) * 8 ≤ 140737488355328 := by omega
      have hbd2 : (out.length + 1 + 1) * 8 ≤ 140737488355328 := by omega
      have hbd3 : (out.length + 2) * 8 ≤ 140737488355328 := by omega
      by_cases h2 : p.rules[i].un = 0
      · rw [if_pos h2] at hv
        rw [hv]
        simp -implicitDefEqProofs [h, h2, Rule.val, Rule.cells, hw, trim_cut, build_one', appS_grown, Value.cells, hbd]
        exact ih1
      · rw [if_neg h2] at hv
        rw [hv]
        simp -implicitDefEqProofs [h, h2, Rule.val, Rule.cells, hw, trim_cut, build_one', appS_grown, Value.cells, hbd, hbd2]
        exact ih2
    · have hd : p.rules.drop i = [] := List.drop_eq_nil_of_le (by omega)
      simp -implicitDefEqProofs [h, hd, vals, trim_le]

end Go.Proofs.Ytippkkkddhnmhaa.Bm
