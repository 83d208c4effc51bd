/-
  Chapter 21: the reference's functions on rules that apply and are new, and on the next day. Conditions: lists that are not too long.
-/
import Derived.Test.YtippkkkddhnmhaaC21c
namespace Go.Proofs.Ytippkkkddhnmhaa.Bm
open Go Go.RowKit

def newB (day : Int) (r : Rule) : Bool := decide (1 ≤ r.fr) && (decide (r.fr ≤ day) && decide (day - r.fr < r.gr))

theorem new_spec (r : Rule) (day : Int) (hd : day ≤ 9223372036854775807) : pureCall E.P (L E) 28 [r.val, .int .i64 day] = some (.bool (newB day r)) := by
  rw [pureCall_fn F28 rfl]
  unfold newB
  by_cases h1 : 1 ≤ r.fr
  · by_cases h2 : r.fr ≤ day
    · have hw := wrap64 (z := day - r.fr) (by omega) (by omega)
      simp -implicitDefEqProofs [r28, padS, Rule.val, Rule.cells, h1, h2, hw]
    · simp -implicitDefEqProofs [r28, padS, Rule.val, Rule.cells, h1, h2]
  · simp -implicitDefEqProofs [r28, padS, Rule.val, Rule.cells, h1]

theorem meets_spec (x y : Bool) (l m : List ByteArray) (hl : l.length ≤ maxLen) (hm : m.length ≤ maxLen) : pureCall E.P (L E) 33 [lst x (l.map .string), lst y (m.map .string)] = some (.bool (l.any (memB m))) := by
  unfold maxLen at hl
  have hs := fun s => has_spec y m s hm
  rw [pureCall_fn F33 rfl]
  simp -implicitDefEqProofs [r33, padS]
  rw [LL_rec (α := Nat) 0 (fun i => [(5, .int .i64 i)]) (fun _ => []) (fun i => if (l.drop i).any (memB m) then (.ret, [(4, .bool true), (5, undef)], []) else (.exit 0, [(5, undef)], [])) (fun i => i ≤ l.length) (fun i => l.length - i)]
  · cases h : l.any (memB m) <;> simp -implicitDefEqProofs only [List.drop_zero, h, Bool.false_eq_true, if_true, if_false]
    · simp -implicitDefEqProofs [k33_2]
    · simp -implicitDefEqProofs [k33_2]
  · simp
  · simp -implicitDefEqProofs [k33_2]
  · rfl
  · intro nx i hi ih
    simp only [k33_2] at ih
    simp -implicitDefEqProofs [r33_2, k33_2, -List.any_eq_true]
    by_cases h : i < l.length
    · have hd : (l.drop i).any (memB m) = (memB m l[i] || (l.drop (i + 1)).any (memB m)) := by rw [List.drop_eq_getElem_cons h]; rfl
      cases he : memB m l[i]
      · have hw := wrap64 (z := (i : Int) + 1) (by omega) (by omega)
        have ih := ih (i + 1) (by omega) (by omega)
        simp -implicitDefEqProofs [-List.any_eq_true] at ih
        simp -implicitDefEqProofs [h, he, trim_le, hw, ih, hd, ret0 m39, hs, -List.any_eq_true]
      · simp -implicitDefEqProofs [h, he, trim_le, hd, ret0 m39, hs, -List.any_eq_true]
    · have hd : l.drop i = [] := List.drop_eq_nil_of_le (by omega)
      simp -implicitDefEqProofs [h, hd, trim_le]

theorem applies_spec (y : Bool) (r : Rule) (zones : List ByteArray) (day : Int) (h1 : r.zones.length ≤ maxLen) (h2 : r.exc.length ≤ maxLen) (h3 : zones.length ≤ maxLen) :
    pureCall E.P (L E) 24 [r.val, lst y (zones.map .string), .int .i64 day] = some (.bool (applies zones day r)) := by
  have c1 := meets_spec false y r.zones zones h1 h3
  have c2 := meets_spec false y r.exc zones h2 h3
  rw [pureCall_fn F24 rfl]
  unfold applies inForce coversB
  by_cases q1 : r.fr ≤ day
  · have p1 : ¬ day < r.fr := by omega
    by_cases q2 : r.un = 0
    · by_cases hz : r.zones = []
      · simp -implicitDefEqProofs [r24, padS, Rule.val, Rule.cells, q1, p1, q2, hz, ret0 m33, c2, -List.any_eq_true, -List.any_eq_false]
      · have hz' : r.zones.isEmpty = false := by simpa using hz
        cases hb : r.zones.any (memB zones) <;> rw [hb] at c1 <;> simp -implicitDefEqProofs [r24, padS, Rule.val, Rule.cells, q1, p1, q2, hz, hz', ret0 m33, c1, c2, -List.any_eq_true, -List.any_eq_false]
    · by_cases q3 : day < r.un
      · have p3 : ¬ r.un ≤ day := by omega
        by_cases hz : r.zones = []
        · simp -implicitDefEqProofs [r24, padS, Rule.val, Rule.cells, q1, p1, q2, q3, p3, hz, ret0 m33, c2, -List.any_eq_true, -List.any_eq_false]
        · have hz' : r.zones.isEmpty = false := by simpa using hz
          cases hb : r.zones.any (memB zones) <;> rw [hb] at c1 <;> simp -implicitDefEqProofs [r24, padS, Rule.val, Rule.cells, q1, p1, q2, q3, p3, hz, hz', ret0 m33, c1, c2, -List.any_eq_true, -List.any_eq_false]
      · have p3 : r.un ≤ day := by omega
        simp -implicitDefEqProofs [r24, padS, Rule.val, Rule.cells, q1, p1, q2, q3, p3]
  · have p1 : day < r.fr := by omega
    simp -implicitDefEqProofs [r24, padS, Rule.val, Rule.cells, q1, p1]

end Go.Proofs.Ytippkkkddhnmhaa.Bm
