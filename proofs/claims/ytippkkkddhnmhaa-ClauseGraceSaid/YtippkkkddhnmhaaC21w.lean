/-
  Chapter 21: the law that all functions return what the reference returns. Conditions: integers within their kinds.
-/
import Derived.Test.YtippkkkddhnmhaaC21v
import Derived.Test.YtippkkkddhnmhaaC21i
import Derived.Test.YtippkkkddhnmhaaC21d
namespace Go.Proofs.Ytippkkkddhnmhaa.Bm
open Go Go.RowKit

/-- The place of an integer, from 'k' on; or -1. -/
def idxI (s : Int) (l : List Int) (k : Nat) : Int := match l with
  | [] => -1
  | a :: l => if a = s then k else idxI s l (k + 1)
theorem idxI_drop {s : Int} {l : List Int} {i : Nat} (h : i < l.length) : idxI s (l.drop i) i = if l[i] = s then (i : Int) else idxI s (l.drop (i + 1)) (i + 1) := by
  rw [List.drop_eq_getElem_cons h]; rfl
theorem idxI_ge {s : Int} : ∀ {l : List Int} {k : Nat}, decide (0 ≤ idxI s l k) = memI l s
  | [], k => by simp [idxI, memI]
  | a :: l, k => by
    have ih := idxI_ge (s := s) (l := l) (k := k + 1)
    have e : memI (a :: l) s = (decide (a = s) || memI l s) := rfl
    unfold idxI
    rw [e]
    by_cases h : a = s
    · simp [h]
    · simp only [h, if_false, ih, decide_false, Bool.false_or]
theorem idxI_no {s : Int} : ∀ {l : List Int} {k : Nat}, memI l s = false → idxI s l k = -1
  | [], _, _ => rfl
  | a :: l, k, h => by
    have e : memI (a :: l) s = (decide (a = s) || memI l s) := rfl
    rw [e, Bool.or_eq_false_iff] at h
    have h1 : ¬ a = s := of_decide_eq_false h.1
    unfold idxI
    rw [if_neg h1]
    exact idxI_no h.2

theorem indexI_spec (x : Bool) (l : List Int) (s : Int) (hl : l.length ≤ maxLen) : pureCall E.P (L E) 36 [lst x (l.map (.int .i64)), .int .i64 s] = some (.int .i64 (idxI s l 0)) := by
  unfold maxLen at hl
  rw [pureCall_fn F36 rfl]
  simp [r36, padS]
  rw [LL_rec (α := Nat) 0 (fun i => [(8, .int .i64 i)]) (fun _ => []) (fun i => if memI (l.drop i) s then (.ret, [(4, .int .i64 (idxI s (l.drop i) i)), (8, undef)], []) else (.exit 0, [(8, undef)], [])) (fun i => i ≤ l.length) (fun i => l.length - i)]
  · cases h : memI l s
    · simp only [List.drop_zero, h, Bool.false_eq_true, if_false, idxI_no h]
      simp [k36_2]
    · simp only [List.drop_zero, h, if_true]
      simp [k36_2]
  · simp
  · simp [k36_2]
  · rfl
  · intro nx i hi ih
    simp only [k36_2] at ih
    simp [r36_2, k36_2]
    by_cases h : i < l.length
    · have hm := idxI_drop (s := s) h
      have ha := memI_drop (s := s) h
      by_cases he : l[i] = s
      · simp [h, he, trim_le, hm, ha]
      · have hw := wrap64 (z := (i : Int) + 1) (by omega) (by omega)
        have ih := ih (i + 1) (by omega) (by omega)
        simp at ih
        simp [h, he, Ne.symm he, trim_le, hw, ih, hm, ha]
    · simp [h, trim_le]
      rw [List.drop_eq_nil_of_le (by omega)]
      simp [memI_nil]

theorem containsI_spec (x : Bool) (l : List Int) (s : Int) (hl : l.length ≤ maxLen) : pureCall E.P (L E) 29 [lst x (l.map (.int .i64)), .int .i64 s] = some (.bool (memI l s)) := by
  rw [pureCall_fn F29 rfl]
  simp [r29, padS, ret0 m36, indexI_spec x l s hl, idxI_ge]

theorem daysL_len (p : Plan) (day : Int) : (daysL p day).length ≤ p.rules.length + 1 := by
  have h1 := compG_len (sortI (day :: newF day p.rules)) none
  have h2 := sortI_len (day :: newF day p.rules)
  have h3 : (newF day p.rules).length ≤ p.rules.length := by
    unfold newF; rw [List.length_map]; exact List.length_filter_le _ _
  unfold daysL compI
  rw [List.length_reverse]
  simp only [List.length_cons] at h2
  omega

theorem memI_mem {l : List Int} {z : Int} : memI l z = true ↔ z ∈ l := by
  unfold memI
  simp [List.any_eq_true]
theorem may_same (p : Plan) (day choice : Int) : mayB p day choice = memI (daysL p day) choice := by
  apply Bool.eq_iff_iff.2
  rw [memI_mem, daysL_mem, newF_mem]
  unfold mayB
  simp only [Bool.or_eq_true, List.any_eq_true, Bool.and_eq_true, decide_eq_true_eq]
  constructor
  · rintro (⟨r, h1, h2⟩ | h)
    · exact .inr ⟨r, h1, h2⟩
    · exact .inl h
  · rintro (h | ⟨r, h1, h2⟩)
    · exact .inr h
    · exact .inl ⟨r, h1, h2⟩

theorem may_spec (x : Bool) (p : Plan) (day choice : Int) (hp : p.rules.length ≤ 1000000) (hd : day ≤ 9223372036854775807) :
    pureCall E.P (L E) 17 [p.val x, .int .i64 day, .int .i64 choice] = some (.bool (memI (daysL p day) choice)) := by
  have ds := days_spec x p day hp hd
  have hl := daysL_len p day
  have cs := containsI_spec false (daysL p day) choice (by unfold maxLen; omega)
  simp only [Plan.val, Plan.cells] at ds
  rw [pureCall_fn F17 rfl]
  simp -implicitDefEqProofs [r17, padS, Plan.val, Plan.cells, ret1s m15, ds, ret0 m29, cs]

theorem u4d : E.P.underlying 4 = some .bool := by kernel_rfl

set_option maxHeartbeats 4000000 in
theorem tells_spec (x y : Bool) (p : Plan) (zones : List ByteArray) (day choice : Int) (hp : PlanOk p) (hz : zones.length ≤ maxLen) (hd : i64ok day) :
    ∃ h', L E 3 [p.val x, lst y (zones.map .string), .int .i64 day, .int .i64 choice] [] 0 = some (.bool true, h') := by
  have few := few_spec x y p zones hp.len hp.names hz
  simp only [Plan.val, Plan.cells] at few
  rw [L_fn F3 rfl]
  cases hf : fewB p zones
  · rw [hf] at few
    simp -implicitDefEqProofs [r3, padS, Plan.val, Plan.cells, ret0 m8, small_spec, ret0 m9, few]
  · rw [hf] at few
    have h20 : p.rules.length ≤ 20 := by
      unfold fewB at hf
      simp at hf
      exact hf.1.1
    unfold i64ok at hd
    have hb : ∀ r ∈ p.rules, -9223372036854775808 ≤ r.fr ∧ r.fr ≤ 9223372036854775807 := fun r hr => (hp.ints r hr).1
    have a1 := apply_spec x y p zones day (by omega) hp.names hz
    have a2 := apply_ref x y p zones day (by omega) hp.names hz
    have n1 := next_spec x p day hp.len
    have n2 := next_ref x p day (by omega)
    have d1 := days_spec x p day (by omega) hd.2
    have d2 := days_ref x p day (by omega) hd.2 hb
    have m1 := may_spec x p day choice (by omega) hd.2
    have m2 := may_ref x p day choice hp.len hd.2 fun r hr => (hb r hr).2
    rw [may_same] at m2
    have i1 := ints_spec false false (applyF zones day p.rules 0) (applyF zones day p.rules 0) (Nat.le_trans (applyF_len _ _ _ _) hp.len)
    have i2 := ints_spec false false (daysL p day) (daysL p day) (by have := daysL_len p day; unfold maxLen; omega)
    simp only [Plan.val, Plan.cells] at a1 a2 n1 n2 d1 d2 m1 m2
    simp -implicitDefEqProofs [r3, padS, Plan.val, Plan.cells, ret0 m8, small_spec, ret0 m9, few, ret0 m10, n1, ret0 m11, n2, ret1s m13, a1, ret1s m14, a2, ret0 m12, i1, ret1s m15, d1, ret1s m16, d2, i2, ret0 m17, m1, ret0 m18, m2, bin_eql_bool u4d]

end Go.Proofs.Ytippkkkddhnmhaa.Bm
