/-
  Chapter 21: the reference's Days. Conditions: lists that are not too long, integers within their kinds.
-/
import Derived.Test.YtippkkkddhnmhaaC21h
import Derived.Test.YtippkkkddhnmhaaC21f
namespace Go.Proofs.Ytippkkkddhnmhaa.Bm
open Go Go.RowKit

theorem idx_row {e : TypeId} {g : Option Bool} {s len cap : Nat} {a : Addr} {k : IntKind} {i : Int} : indexAddrT (.sl e ⟨g, some s⟩) (.slice (some a) len cap) (.int k i) = if 0 ≤ i ∧ i < len then some (.pointer (some (shift a (i.toNat * s)))) else none := rfl
theorem minmax2 {k k' : IntKind} {x y : Int} : aMinMax true [.int k x, .int k' y] = some (.int k (if y > x then y else x)) := rfl

theorem bestF_ge (day last : Int) (l : List Rule) (b : Int) : b ≤ l.foldl (bestS day last) b := (best_fold day last l b).1

theorem row_ints' (h : Heap) (W : List Int) : reifyC E.P 7 h ((W.map (.int .i64)).take W.length) = some (W.map (.int .i64)) := by
  rw [List.take_of_length_le (by simp), reifyC_set (by simp [List.all_eq_true])]

set_option maxHeartbeats 4000000 in
theorem days_ref (x : Bool) (p : Plan) (day : Int) (hp : p.rules.length ≤ 1000000) (hd : day ≤ 9223372036854775807) (hf : ∀ r ∈ p.rules, -9223372036854775808 ≤ r.fr ∧ r.fr ≤ 9223372036854775807) :
    pureCall E.P (L E) 16 [p.val x, .int .i64 day] = some (lst false ((daysL p day).map (.int .i64))) := by
  rw [pureCall_fn F16 rfl, days_greedy]
  simp -implicitDefEqProofs [r16, padS, Plan.val, Plan.cells, build_one', Value.cells]
  rw [LL_rec (α := List Int × Int) ([], day) (fun a => [(5, .slice (some ⟨1, 0, some (a.1.length + 1)⟩) (a.1.length + 1) (a.1.length + 1))]) (fun a => [.cells 30 (p.cells x) 0, .cells 3 ((a.1 ++ [a.2]).map (.int .i64)) 1])
    (fun a => let o := a.1 ++ [a.2] ++ greedy day p.rules (p.rules.length - a.1.length) a.2
      (.exit 0, [(5, .slice (some ⟨1, 0, some o.length⟩) o.length o.length)], [.cells 30 (p.cells x) 0, .cells 3 (o.map (.int .i64)) 1]))
    (fun a => a.1.length ≤ p.rules.length) (fun a => p.rules.length - a.1.length)]
  · simp -implicitDefEqProofs [k16_2, s3]
    have rI := row_ints' [.cells 30 (p.cells x) 0, .cells 3 (.int .i64 day :: (greedy day p.rules p.rules.length day).map (.int .i64)) 1] (day :: greedy day p.rules p.rules.length day)
    simp -implicitDefEqProofs at rI
    simp -implicitDefEqProofs [rI, elems_one a3 s3]
  · simp
  · simp -implicitDefEqProofs [k16_2]
  · rfl
  · intro nx a hi ih
    obtain ⟨pre, last⟩ := a
    simp only at hi
    simp only [k16_2] at ih
    by_cases h : pre.length < p.rules.length
    · have hle : ((pre.length : Int) + 1 ≤ p.rules.length) := by omega
      obtain ⟨k, hk⟩ : ∃ k, p.rules.length - pre.length = k + 1 := ⟨p.rules.length - pre.length - 1, by omega⟩
      simp -implicitDefEqProofs [r16_2, k16_2, Plan.cells, hle]
      rw [LL_rec (α := Nat × Int) (0, -1) (fun a => [(6, .int .i64 a.2), (7, .int .i64 a.1)]) (fun _ => [.cells 30 (p.cells x) 0, .cells 3 ((pre ++ [last]).map (.int .i64)) 1])
        (fun a => (.exit 2, [(6, .int .i64 ((p.rules.drop a.1).foldl (bestS day last) a.2)), (7, undef)], [.cells 30 (p.cells x) 0, .cells 3 ((pre ++ [last]).map (.int .i64)) 1]))
        (fun a => a.1 ≤ p.rules.length) (fun a => p.rules.length - a.1)]
      · have hB : p.rules.foldl (bestS day last) (-1) = bestF day last p.rules := rfl
        simp only [List.drop_zero, hB, hk, greedy]
        have ihB := ih (pre ++ [last], bestF day last p.rules) (by simp; omega) (by simp; omega)
        have hk2 : p.rules.length - (pre.length + 1) = k := by omega
        have hbd : (pre.length + 1 + 1) * 8 ≤ 140737488355328 := by omega
        have hbd2 : (pre.length + 2) * 8 ≤ 140737488355328 := by omega
        simp -implicitDefEqProofs [Plan.cells, hk2] at ihB
        by_cases hb : bestF day last p.rules < 0
        · simp -implicitDefEqProofs [k16_5, Plan.cells, hb, trim_le]
        · simp -implicitDefEqProofs [k16_5, Plan.cells, hb, trim_cut, build_one', appS_grown, Value.cells, hbd]
          exact ihB
      · simp
      · simp -implicitDefEqProofs [k16_5]
      · simp -implicitDefEqProofs [Plan.cells]
      · intro nx a hi ih
        obtain ⟨i, b⟩ := a
        simp only at hi
        simp only [k16_5] at ih
        simp -implicitDefEqProofs [r16_5, k16_5, Plan.cells]
        by_cases h : i < p.rules.length
        · have hdr : p.rules.drop i = p.rules[i] :: p.rules.drop (i + 1) := List.drop_eq_getElem_cons h
          have hw := wrap64 (z := (i : Int) + 1) (by omega) (by omega)
          have hw3 : IntKind.i64.wrap (pre.length : Int) = pre.length := wrap64 (by omega) (by omega)
          have hfo : (p.rules.drop i).foldl (bestS day last) b = (p.rules.drop (i + 1)).foldl (bestS day last) (bestS day last b p.rules[i]) := by rw [hdr]; rfl
          have hlt : (pre.length : Int) < pre.length + 1 := by omega
          have hget : (List.map (Value.int .i64) pre ++ [Value.int .i64 last])[pre.length]? = some (.int .i64 last) := by rw [List.getElem?_append_right (by simp)]; simp
          have ns := new_spec p.rules[i] day hd
          have ih := ih (i + 1, bestS day last b p.rules[i]) (by simp; omega) (by simp; omega)
          have hb := hf p.rules[i] (List.getElem_mem h)
          rw [hfo]
          simp only [Rule.val, Rule.cells] at ns
          simp -implicitDefEqProofs [Plan.cells] at ih
          cases hn : newB day p.rules[i]
          · have e : bestS day last b p.rules[i] = b := by simp [bestS, hn]
            rw [hn] at ns
            rw [e] at ih ⊢
            simp -implicitDefEqProofs [h, Rule.val, Rule.cells, ret0 m28, ns, hw, trim_le]
            exact ih
          · have hp1 := newB_pos hn
            have hw2 := wrap64 (z := p.rules[i].fr - 1) (by omega) (by omega)
            rw [hn] at ns
            by_cases c1 : p.rules[i].fr - 1 < last
            · by_cases c2 : b < p.rules[i].fr - 1
              · have e : bestS day last b p.rules[i] = p.rules[i].fr - 1 := by unfold bestS; rw [if_pos ⟨hn, c1⟩]; omega
                rw [e] at ih ⊢
                simp -implicitDefEqProofs [h, Rule.val, Rule.cells, ret0 m28, ns, hw, hw2, hw3, hlt, idx_row, c1, c2, minmax2, trim_le]
                exact ih
              · have e : bestS day last b p.rules[i] = b := by unfold bestS; rw [if_pos ⟨hn, c1⟩]; omega
                rw [e] at ih ⊢
                simp -implicitDefEqProofs [h, Rule.val, Rule.cells, ret0 m28, ns, hw, hw2, hw3, hlt, idx_row, c1, c2, minmax2, trim_le]
                exact ih
            · have e : bestS day last b p.rules[i] = b := by unfold bestS; rw [if_neg fun k => c1 k.2]
              rw [e] at ih ⊢
              simp -implicitDefEqProofs [h, Rule.val, Rule.cells, ret0 m28, ns, hw, hw2, hw3, hlt, idx_row, c1, trim_le]
              exact ih
        · have hdr : p.rules.drop i = [] := List.drop_eq_nil_of_le (by omega)
          simp -implicitDefEqProofs [h, hdr, trim_le]
    · have hle : ¬ ((pre.length : Int) + 1 ≤ p.rules.length) := by omega
      have hk : p.rules.length - pre.length = 0 := by omega
      simp -implicitDefEqProofs [r16_2, k16_2, Plan.cells, hle, hk, greedy, trim_le]

end Go.Proofs.Ytippkkkddhnmhaa.Bm
