/-
  Chapter 21: which rules cover and apply. Conditions: lists that are not too long.
-/
import Derived.Test.YtippkkkddhnmhaaC21a
namespace Go.Proofs.Ytippkkkddhnmhaa.Bm
open Go Go.RowKit

theorem contains_spec (x : Bool) (l : List ByteArray) (s : ByteArray) (hl : l.length ≤ maxLen) : pureCall E.P (L E) 31 [lst x (l.map .string), .string s] = some (.bool (memB l s)) := by
  rw [pureCall_fn F31 rfl]
  simp [r31, padS, ret0 m37, index_spec x l s hl, idxF_ge, memB]

theorem indexF_spec (x : Bool) (l : List ByteArray) (g : FuncId) (cap : Value) (p : ByteArray → Bool) (hm : E.mode g = 0) (hr : ∀ h, reify E.P 8 h cap = some cap)
    (hp : ∀ s, pureCall E.P (L E) g [.string s, cap] = some (.bool (p s))) (hl : l.length ≤ maxLen) :
    pureCall E.P (L E) 38 [lst x (l.map .string), .func (.func g) ⟨[]⟩ ⟨[cap]⟩] = some (.int .i64 (idxF p l 0)) := by
  unfold maxLen at hl
  rw [pureCall_fn F38 rfl]
  simp [r38, padS]
  rw [LL_rec (α := Nat) 0 (fun i => [(8, .int .i64 i)]) (fun _ => []) (fun i => if (l.drop i).any p then (.ret, [(4, .int .i64 (idxF p (l.drop i) i)), (8, undef)], []) else (.exit 0, [(8, undef)], [])) (fun i => i ≤ l.length) (fun i => l.length - i)]
  · cases h : l.any p
    · have : idxF p l 0 = -1 := by
        have key : ∀ (l : List ByteArray) k, l.any p = false → idxF p l k = -1 := by
          intro l
          induction l with
          | nil => intro k _; rfl
          | cons a l ih =>
            intro k hk
            simp only [List.any_cons, Bool.or_eq_false_iff] at hk
            unfold idxF
            simp only [hk.1, Bool.false_eq_true, if_false]
            exact ih _ hk.2
        exact key l 0 h
      simp only [List.drop_zero, h, Bool.false_eq_true, if_false, this]
      simp [k38_2]
    · simp only [List.drop_zero, h, if_true]
      simp [k38_2]
  · simp
  · simp [k38_2]
  · rfl
  · intro nx i hi ih
    simp only [k38_2] at ih
    simp [r38_2, k38_2, -List.any_eq_true]
    by_cases h : i < l.length
    · have hd := idxF_drop (p := p) h
      have ha : (l.drop i).any p = (p l[i] || (l.drop (i + 1)).any p) := by
        rw [List.drop_eq_getElem_cons h]; rfl
      cases he : p l[i]
      · have hw := wrap64 (z := (i : Int) + 1) (by omega) (by omega)
        have ih := ih (i + 1) (by omega) (by omega)
        simp [-List.any_eq_true] at ih
        simp [h, he, trim_le, hw, ih, hd, ha, ret0 hm, hr, hp, -List.any_eq_true]
      · simp [h, he, trim_le, hd, ha, ret0 hm, hr, hp, -List.any_eq_true]
    · simp [h, trim_le, -List.any_eq_true]
      rw [List.drop_eq_nil_of_le (by omega)]
      simp

theorem containsF_spec (x : Bool) (l : List ByteArray) (g : FuncId) (cap : Value) (p : ByteArray → Bool) (hm : E.mode g = 0) (hr : ∀ h, reify E.P 8 h cap = some cap) (hset : settled 8 cap = true)
    (hp : ∀ s, pureCall E.P (L E) g [.string s, cap] = some (.bool (p s))) (hl : l.length ≤ maxLen) :
    pureCall E.P (L E) 32 [lst x (l.map .string), .func (.func g) ⟨[]⟩ ⟨[cap]⟩] = some (.bool (l.any p)) := by
  rw [pureCall_fn F32 rfl]
  simp [r32, padS, ret0 m38, indexF_spec x l g cap p hm hr hp hl, idxF_ge, hset]

theorem has30_spec (x : Bool) (l : List ByteArray) (s : ByteArray) (hl : l.length ≤ maxLen) : pureCall E.P (L E) 30 [.string s, cptr (lst x (l.map .string))] = some (.bool (memB l s)) := by
  rw [pureCall_fn F30 rfl]
  simp [r30, padS, ret0 m31, contains_spec x l s hl]

/-- A rule covers a list of names. -/
def coversB (r : Rule) (zones : List ByteArray) : Bool := (r.zones.isEmpty || r.zones.any (memB zones)) && !r.exc.any (memB zones)

theorem s31 : szOf E.P 31 = some 1 := by kernel_rfl
theorem a31 : aggT E.P 31 = some false := by kernel_rfl

theorem has30_any (x : Bool) (l : List ByteArray) (hl : l.length ≤ maxLen) : ∀ s, pureCall E.P (L E) 30 [.string s, cptr (lst x (l.map .string))] = some (.bool (memB l s)) := fun s => has30_spec x l s hl
theorem cap_reify (x : Bool) (l : List Value) : ∀ h, reify E.P 8 h (cptr (lst x l)) = some (cptr (lst x l)) := fun _ => rfl

theorem covers_spec (x : Bool) (r : Rule) (zones : List ByteArray) (h1 : r.zones.length ≤ maxLen) (h2 : r.exc.length ≤ maxLen) (h3 : zones.length ≤ maxLen) :
    pureCall E.P (L E) 23 [r.val, lst x (zones.map .string)] = some (.bool (coversB r zones)) := by
  have c1 := containsF_spec false r.zones 30 _ _ m30 (cap_reify x (zones.map .string)) rfl (has30_any x zones h3) h1
  have c2 := containsF_spec false r.exc 30 _ _ m30 (cap_reify x (zones.map .string)) rfl (has30_any x zones h3) h2
  rw [pureCall_fn F23 rfl]
  simp -implicitDefEqProofs [r23, padS, Rule.val, Rule.cells]
  unfold coversB
  by_cases hz : r.zones = []
  · simp -implicitDefEqProofs [hz, ret0 m32, s31, a31, c2, -List.any_eq_true, -List.any_eq_false]
  · have hz' : r.zones.isEmpty = false := by simpa using hz
    cases hb : r.zones.any (memB zones) <;> simp -implicitDefEqProofs [hz, hz', ret0 m32, s31, a31, c1, c2, hb, -List.any_eq_true, -List.any_eq_false]

/-! ### Apply -/

def inForce (r : Rule) (day : Int) : Bool := decide (r.fr ≤ day) && (decide (r.un = 0) || decide (day < r.un))
def applies (zones : List ByteArray) (day : Int) (r : Rule) : Bool := inForce r day && coversB r zones
/-- The places, from 'k' on, of the rules that apply. -/
def applyF (zones : List ByteArray) (day : Int) : List Rule → Nat → List Int
  | [], _ => []
  | r :: l, k => if applies zones day r then (k : Int) :: applyF zones day l (k + 1) else applyF zones day l (k + 1)

def okRules (l : List Rule) : Prop := ∀ r ∈ l, r.zones.length ≤ maxLen ∧ r.exc.length ≤ maxLen

theorem s3 : szOf E.P 3 = some 1 := by kernel_rfl
theorem a3 : aggT E.P 3 = some false := by kernel_rfl

theorem applyF_len (zones : List ByteArray) (day : Int) : ∀ (l : List Rule) (k : Nat), (applyF zones day l k).length ≤ l.length
  | [], _ => by simp [applyF]
  | r :: l, k => by
    have := applyF_len zones day l (k + 1)
    unfold applyF
    split <;> simp <;> omega

theorem apply_spec (x y : Bool) (p : Plan) (zones : List ByteArray) (day : Int) (hp : p.rules.length ≤ 1000000) (hr : okRules p.rules) (hz : zones.length ≤ maxLen) :
    pureCall E.P (L E) 13 [p.val x, lst y (zones.map .string), .int .i64 day] = some (lst false ((applyF zones day p.rules 0).map (.int .i64))) := by
  rw [pureCall_fn F13 rfl]
  simp -implicitDefEqProofs [r13, padS, Plan.val, prep1, s3, Plan.cells]
  rw [LL_rec (α := Nat × List Int) (0, []) (fun a => [(7, .slice (some ⟨1, 0, some a.2.length⟩) a.2.length a.2.length), (13, .int .i64 a.1)]) (fun a => [.cells 30 (p.cells x) 0, .cells 3 (a.2.map (.int .i64)) 1])
    (fun a => let o := a.2 ++ applyF zones day (p.rules.drop a.1) a.1
      (.exit 0, [(7, .slice (some ⟨1, 0, some o.length⟩) o.length o.length), (13, undef)], [.cells 30 (p.cells x) 0, .cells 3 (o.map (.int .i64)) 1]))
    (fun a => a.1 ≤ p.rules.length ∧ a.2.length ≤ a.1) (fun a => p.rules.length - a.1)]
  · simp -implicitDefEqProofs [k13_3, s3, elems_one a3 s3]
    by_cases he : applyF zones day p.rules 0 = []
    · simp [he]
    · simp -implicitDefEqProofs [he]
      rw [List.take_of_length_le (by simp), reifyC_set (by simp -implicitDefEqProofs [List.all_eq_true])]
      simp
  · simp
  · simp -implicitDefEqProofs [k13_3]
  · rfl
  · intro nx a ⟨hi, ho⟩ ih
    obtain ⟨i, out⟩ := a
    simp only at hi ho
    simp only [k13_3] at ih
    simp -implicitDefEqProofs [r13_3, k13_3]
    by_cases h : i < p.rules.length
    · have hd : p.rules.drop i = p.rules[i] :: p.rules.drop (i + 1) := List.drop_eq_getElem_cons h
      obtain ⟨q1, q2⟩ := hr p.rules[i] (List.getElem_mem h)
      have hw := wrap64 (z := (i : Int) + 1) (by omega) (by omega)
      simp -implicitDefEqProofs [h]
      generalize p.rules[i] = r at *
      have cs := covers_spec y r zones q1 q2 hz
      simp only [Rule.val, Rule.cells] at cs
      have ap : applyF zones day (p.rules.drop i) i = if applies zones day r then (i : Int) :: applyF zones day (p.rules.drop (i + 1)) (i + 1) else applyF zones day (p.rules.drop (i + 1)) (i + 1) := by rw [hd]; rfl
      rw [ap]
      have ih1 := ih (i + 1, out) (by simp; omega) ⟨by simp; omega, by simp; omega⟩
      have ih2 := ih (i + 1, out ++ [(i : Int)]) (by simp; omega) ⟨by simp; omega, by simp; omega⟩
      simp -implicitDefEqProofs at ih1 ih2
      clear ih
      have hbd : (out.length + 1) * 8 ≤ 140737488355328 := by omega
      by_cases h1 : r.fr ≤ day
      · by_cases h2 : r.un = 0
        · rw [h2] at cs
          cases hc : coversB r zones
          · rw [hc] at cs
            simp -implicitDefEqProofs [Rule.val, Rule.cells, Plan.cells, h1, h2, applies, inForce, ret0 m23, cs, hc, hw, trim_cut]
            simp -implicitDefEqProofs [Plan.cells] at ih1
            exact ih1
          · rw [hc] at cs
            simp -implicitDefEqProofs [Rule.val, Rule.cells, Plan.cells, h1, h2, applies, inForce, ret0 m23, cs, hc, hw, trim_cut, build_one', appS_grown, Value.cells, hbd]
            simp -implicitDefEqProofs [Plan.cells] at ih2
            exact ih2
        · by_cases h3 : day < r.un
          · cases hc : coversB r zones
            · rw [hc] at cs
              simp -implicitDefEqProofs [Rule.val, Rule.cells, Plan.cells, h1, h2, h3, applies, inForce, ret0 m23, cs, hc, hw, trim_cut]
              simp -implicitDefEqProofs [Plan.cells] at ih1
              exact ih1
            · rw [hc] at cs
              simp -implicitDefEqProofs [Rule.val, Rule.cells, Plan.cells, h1, h2, h3, applies, inForce, ret0 m23, cs, hc, hw, trim_cut, build_one', appS_grown, Value.cells, hbd]
              simp -implicitDefEqProofs [Plan.cells] at ih2
              exact ih2
          · simp -implicitDefEqProofs [Rule.val, Rule.cells, Plan.cells, h1, h2, h3, applies, inForce, hw, trim_cut]
            simp -implicitDefEqProofs [Plan.cells] at ih1
            exact ih1
      · simp -implicitDefEqProofs [Rule.val, Rule.cells, Plan.cells, h1, applies, inForce, hw, trim_cut]
        simp -implicitDefEqProofs [Plan.cells] at ih1
        exact ih1
    · have hd : p.rules.drop i = [] := List.drop_eq_nil_of_le (by omega)
      simp -implicitDefEqProofs [h, hd, applyF, trim_le]

end Go.Proofs.Ytippkkkddhnmhaa.Bm
