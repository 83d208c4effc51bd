/-
  Chapter 21: the law on names that stand twice and the other way round. Conditions: integers within their kinds.
-/
import Derived.Test.YtippkkkddhnmhaaC21d
import Derived.Test.YtippkkkddhnmhaaBmLit
namespace Go.Proofs.Ytippkkkddhnmhaa.Bm
open Go Go.RowKit

theorem s9 : szOf E.P 9 = some 1 := by kernel_rfl
theorem a9 : aggT E.P 9 = some false := by kernel_rfl
theorem u4b : E.P.underlying 4 = some .bool := by kernel_rfl
theorem twice_len : ∀ l : List ByteArray, (twice l).length = 2 * l.length
  | [] => rfl
  | a :: l => by
    have : twice (a :: l) = a :: a :: twice l := rfl
    rw [this, List.length_cons, List.length_cons, twice_len l, List.length_cons]; omega
theorem twice_app (l : List ByteArray) (s : ByteArray) : twice (l ++ [s]) = twice l ++ [s, s] := by
  unfold twice; rw [List.flatMap_append]; rfl
theorem twice_step {l : List ByteArray} {i : Nat} (h : i < l.length) : twice (l.take (i + 1)).reverse = [l[i], l[i]] ++ twice (l.take i).reverse := by
  rw [List.take_succ_eq_append_getElem h, List.reverse_append]; rfl

theorem frz_two {p : Plan} {x : Bool} (l : List ByteArray) : ∃ o2, belowO 2 o2 = true ∧
    freezeV E.P depth 0 [.cells 30 (p.cells x) 0, .cells 9 (l.map .string) 1] (.slice (some ⟨1, 0, some l.length⟩) l.length l.length) = some (lst false (l.map .string), [.cells 30 (p.cells x) 0, o2]) := by
  have fz := frz_one8 (P := E.P) (lo := 0) (h := [.cells 30 (p.cells x) 0, .cells 9 (l.map .string) 1]) (b := 1) (k := l.length) (len := l.length) (cap := l.length) (t := 9) (l := l.map .string) rfl s9 a9 (Nat.zero_le _) (by simp) (by simp) (by simp [List.all_eq_true])
  rw [fz]
  by_cases h : l.length = 0
  · exact ⟨.cells 9 (l.map .string) 1, by simp [belO_cells, List.all_eq_true], by rw [if_pos h]⟩
  · exact ⟨.dead, rfl, by rw [if_neg h]; rfl⟩

set_option maxHeartbeats 4000000 in
theorem names_spec (x y : Bool) (p : Plan) (zones : List ByteArray) (day : Int) (hp : PlanOk p) (hz : zones.length ≤ maxLen) :
    ∃ h', L E 6 [p.val x, lst y (zones.map .string), .int .i64 day] [] 0 = some (.bool true, h') := by
  have few := few_spec x y p zones hp.len hp.names hz
  simp only [Plan.val, Plan.cells] at few
  rw [L_fn F6 rfl]
  cases hf : fewB p zones
  · rw [hf] at few
    simp -implicitDefEqProofs [r6, padS, Plan.val, Plan.cells, ret0 m8, small_spec, ret0 m9, few]
  · rw [hf] at few
    have h20 : p.rules.length ≤ 20 ∧ zones.length ≤ 8 := by
      unfold fewB shortB at hf
      simp at hf
      exact ⟨hf.1.1, hf.2.2⟩
    obtain ⟨h20, h8⟩ := h20
    have htl := twice_len zones.reverse
    rw [List.length_reverse] at htl
    have ap := apply_spec x y p zones day (by omega) hp.names hz
    have ap2 := apply_spec x false p (twice zones.reverse) day (by omega) hp.names (by unfold maxLen; omega)
    have same : applyF (twice zones.reverse) day p.rules 0 = applyF zones day p.rules 0 :=
      apply_congr p.rules 0 fun r _ => by unfold applies; rw [covers_congr fun s => memB_twice zones s]
    rw [same] at ap2
    have il : (applyF zones day p.rules 0).length ≤ maxLen := Nat.le_trans (applyF_len _ _ _ _) hp.len
    have ints := ints_spec false false (applyF zones day p.rules 0) (applyF zones day p.rules 0) il
    simp only [Plan.val, Plan.cells] at ap ap2
    have hw0 : IntKind.i64.wrap ((zones.length : Int) - 1) = (zones.length : Int) - 1 := wrap64 (by omega) (by omega)
    simp -implicitDefEqProofs [r6, padS, Plan.val, Plan.cells, ret0 m8, small_spec, ret0 m9, few, prep1, s9, hw0]
    rw [LL_rec (α := Nat × List ByteArray) (zones.length, []) (fun a => [(8, .slice (some ⟨1, 0, some a.2.length⟩) a.2.length a.2.length), (9, .int .i64 ((a.1 : Int) - 1))])
      (fun a => [.cells 30 (p.cells x) 0, .cells 9 (a.2.map .string) 1])
      (fun a => let o := a.2 ++ twice (zones.take a.1).reverse
        (.exit 0, [(8, .slice (some ⟨1, 0, some o.length⟩) o.length o.length), (9, undef)], [.cells 30 (p.cells x) 0, .cells 9 (o.map .string) 1]))
      (fun a => a.1 ≤ zones.length ∧ a.2.length + 2 * a.1 ≤ 16) (fun a => a.1)]
    · obtain ⟨o2, hb2, fz⟩ := frz_two (p := p) (x := x) (twice zones.reverse)
      simp -implicitDefEqProofs [Plan.cells] at fz
      simp -implicitDefEqProofs [k6_6, prep1, Plan.cells, fz, ret1s m13, ap]
      rw [LL_rec (α := Nat) 0 (fun i => [(11, .int .i64 i)]) (fun _ => [.cells 30 (p.cells x) 0, o2])
        (fun _ => (.exit 2, [(11, undef)], [.cells 30 (p.cells x) 0, o2])) (fun i => i ≤ p.rules.length) (fun i => p.rules.length - i)]
      · simp -implicitDefEqProofs [k6_11, Plan.cells, ret1s m13, ap2, ret0 m12, ints]
      · simp
      · simp -implicitDefEqProofs [k6_11]
      · rfl
      · intro nx i hi ih
        simp only [k6_11] at ih
        simp -implicitDefEqProofs [r6_11, k6_11, Plan.cells]
        by_cases h : i < p.rules.length
        · have hw := wrap64 (z := (i : Int) + 1) (by omega) (by omega)
          have ih := ih (i + 1) (by omega) (by omega)
          have mi := lhas_spec false (applyF zones day p.rules 0) i il
          rw [memI_at zones day p.rules h] at mi
          simp -implicitDefEqProofs [Plan.cells] at ih
          simp -implicitDefEqProofs [h]
          generalize p.rules[i] = r at *
          by_cases e1 : r.zones = []
          · by_cases e2 : r.exc = []
            · have ea : applies zones day r = inForce r day := by simp [applies, coversB, e1, e2]
              rw [ea] at mi
              unfold inForce at mi
              by_cases h1 : r.fr ≤ day
              · by_cases h2 : r.un = 0
                · simp -implicitDefEqProofs [h1, h2] at mi
                  simp -implicitDefEqProofs [Rule.val, Rule.cells, e1, e2, h1, h2, ret0 m19, mi, hw, trim_cut, hb2, bin_neq_bool u4b]
                  exact ih
                · by_cases h3 : day < r.un
                  · simp -implicitDefEqProofs [h1, h2, h3] at mi
                    simp -implicitDefEqProofs [Rule.val, Rule.cells, e1, e2, h1, h2, h3, ret0 m19, mi, hw, trim_cut, hb2, bin_neq_bool u4b]
                    exact ih
                  · simp -implicitDefEqProofs [h1, h2, h3] at mi
                    simp -implicitDefEqProofs [Rule.val, Rule.cells, e1, e2, h1, h2, h3, ret0 m19, mi, hw, trim_cut, hb2, bin_neq_bool u4b]
                    exact ih
              · simp -implicitDefEqProofs [h1] at mi
                simp -implicitDefEqProofs [Rule.val, Rule.cells, e1, e2, h1, ret0 m19, mi, hw, trim_cut, hb2, bin_neq_bool u4b]
                exact ih
            · simp -implicitDefEqProofs [Rule.val, Rule.cells, e1, e2, hw, trim_cut, hb2]
              exact ih
          · simp -implicitDefEqProofs [Rule.val, Rule.cells, e1, hw, trim_cut, hb2]
            exact ih
        · simp -implicitDefEqProofs [h, trim_le]
    · simp; omega
    · simp -implicitDefEqProofs [k6_6]
    · rfl
    · intro nx a ⟨hi, ho⟩ ih
      obtain ⟨i, out⟩ := a
      simp only at hi ho
      simp only [k6_6] at ih
      cases i with
      | zero =>
        simp -implicitDefEqProofs [r6_6, k6_6, trim_le, twice]
      | succ i =>
        have h : i < zones.length := by omega
        have hs := twice_step (l := zones) h
        have hw := wrap64 (z := (i : Int) - 1) (by omega) (by omega)
        have ih := ih (i, out ++ [zones[i], zones[i]]) (by simp) ⟨by simp; omega, by simp; omega⟩
        have hbd : (out.length + 2) * 16 ≤ 140737488355328 := by omega
        simp -implicitDefEqProofs [Plan.cells] at ih
        simp -implicitDefEqProofs [r6_6, k6_6, Plan.cells, h, hs, hw, elemsT_one, hbd, build_lit', okPart, Value.cells, litOk_nil, litOk_cons, cells_lst, appS_grown, trim_le]
        exact ih

end Go.Proofs.Ytippkkkddhnmhaa.Bm
