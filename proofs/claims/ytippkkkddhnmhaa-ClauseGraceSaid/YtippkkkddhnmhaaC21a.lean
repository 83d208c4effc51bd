/-
  Chapter 21: plans and rules as data, and what the small functions compute. Conditions: lists that are not too long.
-/
import Derived.Test.YtippkkkddhnmhaaRc
namespace Go.Proofs.Ytippkkkddhnmhaa.Bm
open Go Go.RowKit

/-- A rule. -/
structure Rule where
  name : ByteArray
  zones : List ByteArray
  exc : List ByteArray
  fr : Int
  un : Int
  gr : Int
  vary : Bool
  kind : Int
  op : Int
  n1 : Int
  s1 : ByteArray
  key : ByteArray
  args : List Value
  side : Int
  base : Int
  num : Int
  den : Int
  uses : Int
  other : Int
  n2 : Int

def strs (l : List ByteArray) : Value := lst false (l.map .string)
def Rule.cells (r : Rule) : List Value := [.string r.name, lst false (r.zones.map .string), lst false (r.exc.map .string), .int .i64 r.fr, .int .i64 r.un, .int .i64 r.gr, .bool r.vary, .int .i64 r.kind,
  .int .i64 r.op, .int .i64 r.n1, .string r.s1, .string r.key, lst false r.args, .int .i64 r.side, .int .i64 r.base, .int .i64 r.num, .int .i64 r.den, .int .i64 r.uses, .int .i64 r.other, .int .i64 r.n2]
def Rule.val (r : Rule) : Value := .agg ⟨r.cells⟩

structure Plan where
  defs : List Value
  tables : List Value
  zones : List Value
  rules : List Rule
  caps : List Value
  views : List Value
  sun : List Value
  hours : Int
def Plan.cells (p : Plan) (b : Bool) : List Value := [lst false p.defs, lst false p.tables, lst false p.zones, lst b (p.rules.map Rule.val), lst false p.caps, lst false p.views, lst false p.sun, .int .i64 p.hours]
def Plan.val (p : Plan) (b : Bool) : Value := .agg ⟨p.cells b⟩

def ints (b : Bool) (l : List Int) : Value := lst b (l.map (.int .i64))

/-! ### has, Ints, short -/

def memB (l : List ByteArray) (s : ByteArray) : Bool := l.any fun z => decide (z = s)
theorem memB_nil {s : ByteArray} : memB [] s = false := rfl
theorem memB_drop {l : List ByteArray} {s : ByteArray} {i : Nat} (h : i < l.length) : memB (l.drop i) s = (decide (l[i] = s) || memB (l.drop (i + 1)) s) := by
  rw [List.drop_eq_getElem_cons h]; rfl

theorem has_spec (x : Bool) (l : List ByteArray) (s : ByteArray) (hl : l.length ≤ maxLen) : pureCall E.P (L E) 39 [lst x (l.map .string), .string s] = some (.bool (memB l s)) := by
  unfold maxLen at hl
  rw [pureCall_fn F39 rfl]
  simp [r39, padS]
  rw [LL_rec (α := Nat) 0 (fun i => [(5, .int .i64 i)]) (fun _ => []) (fun i => if memB (l.drop i) s then (.ret, [(4, .bool true), (5, undef)], []) else (.exit 0, [(5, undef)], [])) (fun i => i ≤ l.length) (fun i => l.length - i)]
  · cases h : memB l s <;> simp [h, k39_2]
  · simp
  · simp [k39_2]
  · rfl
  · intro nx i hi ih
    simp [k39_2] at ih
    simp [r39_2, k39_2]
    by_cases h : i < l.length
    · have hm := memB_drop (s := s) h
      by_cases he : l[i] = s
      · simp [h, he, trim_le, hm]
      · have hw := wrap64 (z := (i : Int) + 1) (by omega) (by omega)
        have ih := ih (i + 1) (by omega) (by omega)
        simp at ih
        simp [h, he, trim_le, hw, ih, hm]
    · simp [h, trim_le]
      rw [List.drop_eq_nil_of_le (by omega)]
      simp [memB_nil]

def memI (l : List Int) (s : Int) : Bool := l.any fun z => decide (z = s)
theorem memI_nil {s : Int} : memI [] s = false := rfl
theorem memI_drop {l : List Int} {s : Int} {i : Nat} (h : i < l.length) : memI (l.drop i) s = (decide (l[i] = s) || memI (l.drop (i + 1)) s) := by
  rw [List.drop_eq_getElem_cons h]; rfl

theorem lhas_spec (x : Bool) (l : List Int) (s : Int) (hl : l.length ≤ maxLen) : pureCall E.P (L E) 19 [lst x (l.map (.int .i64)), .int .i64 s] = some (.bool (memI l s)) := by
  unfold maxLen at hl
  rw [pureCall_fn F19 rfl]
  simp [r19, padS]
  rw [LL_rec (α := Nat) 0 (fun i => [(5, .int .i64 i)]) (fun _ => []) (fun i => if memI (l.drop i) s then (.ret, [(4, .bool true), (5, undef)], []) else (.exit 0, [(5, undef)], [])) (fun i => i ≤ l.length) (fun i => l.length - i)]
  · cases h : memI l s <;> simp [h, k19_2]
  · simp
  · simp [k19_2]
  · rfl
  · intro nx i hi ih
    simp [k19_2] at ih
    simp [r19_2, k19_2]
    by_cases h : i < l.length
    · have hm := memI_drop (s := s) h
      by_cases he : l[i] = s
      · simp [h, he, trim_le, hm]
      · have hw := wrap64 (z := (i : Int) + 1) (by omega) (by omega)
        have ih := ih (i + 1) (by omega) (by omega)
        simp at ih
        simp [h, he, trim_le, hw, ih, hm]
    · simp [h, trim_le]
      rw [List.drop_eq_nil_of_le (by omega)]
      simp [memI_nil]

theorem ints_spec (x y : Bool) (l m : List Int) (hl : l.length ≤ maxLen) : pureCall E.P (L E) 12 [lst x (l.map (.int .i64)), lst y (m.map (.int .i64))] = some (.bool (decide (l = m))) := by
  unfold maxLen at hl
  rw [pureCall_fn F12 rfl]
  simp [r12, padS]
  by_cases hlen : l.length = m.length
  · simp [hlen]
    rw [LL_rec (α := Nat) 0 (fun i => [(5, .int .i64 i)]) (fun _ => []) (fun i => if l.drop i = m.drop i then (.exit 0, [(5, undef)], []) else (.ret, [(4, .bool false), (5, undef)], [])) (fun i => i ≤ l.length) (fun i => l.length - i)]
    · by_cases h : l = m <;> simp [h, k12_4]
    · simp
    · simp [k12_4]
    · rfl
    · intro nx i hi ih
      simp [k12_4] at ih
      simp [r12_4, k12_4]
      by_cases h : i < l.length
      · have h' : i < m.length := by omega
        have hd : (l.drop i = m.drop i) ↔ (l[i] = m[i] ∧ l.drop (i + 1) = m.drop (i + 1)) := by
          rw [List.drop_eq_getElem_cons h, List.drop_eq_getElem_cons h', List.cons.injEq]
        by_cases he : l[i] = m[i]
        · have hw := wrap64 (z := (i : Int) + 1) (by omega) (by omega)
          have ih := ih (i + 1) (by omega) (by omega)
          simp at ih
          simp [h', hlen, he, trim_le, hw, ih, hd]
        · simp [h', hlen, he, trim_le, hd]
      · have h' : ¬ i < m.length := by omega
        simp [h', hlen, trim_le]
        rw [List.drop_eq_nil_of_le (by omega), List.drop_eq_nil_of_le (by omega)]
        simp
  · have : ¬ l = m := fun e => hlen (by rw [e])
    have hlen' : ¬ ((l.length : Int) = m.length) := by omega
    simp [hlen', this]

def shortB (l : List ByteArray) : Bool := l.all (fun s => decide (s.size ≤ 40)) && decide (l.length ≤ 8)
theorem short_drop {l : List ByteArray} {i : Nat} (h : i < l.length) : (l.drop i).all (fun s => decide (s.size ≤ 40)) = (decide (l[i].size ≤ 40) && (l.drop (i + 1)).all (fun s => decide (s.size ≤ 40))) := by
  rw [List.drop_eq_getElem_cons h]; rfl

theorem short_spec (x : Bool) (l : List ByteArray) (hl : l.length ≤ maxLen) : pureCall E.P (L E) 21 [lst x (l.map .string)] = some (.bool (shortB l)) := by
  unfold maxLen at hl
  rw [pureCall_fn F21 rfl]
  simp [r21, padS]
  rw [LL_rec (α := Nat) 0 (fun i => [(3, .int .i64 i)]) (fun _ => []) (fun i => if (l.drop i).all (fun s => decide (s.size ≤ 40)) then (.exit 0, [(3, undef)], []) else (.ret, [(2, .bool false), (3, undef)], [])) (fun i => i ≤ l.length) (fun i => l.length - i)]
  · unfold shortB
    cases h : l.all (fun s => decide (s.size ≤ 40)) <;> simp only [List.drop_zero, h, Bool.false_eq_true, if_true, if_false, Bool.true_and, Bool.false_and]
    · simp [k21_2]
    · simp [k21_2]
      omega
  · simp
  · simp [k21_2]
  · rfl
  · intro nx i hi ih
    simp only [k21_2] at ih
    simp [r21_2, k21_2, -List.all_eq_true]
    by_cases h : i < l.length
    · have hm := short_drop h
      by_cases he : l[i].size ≤ 40
      · have hw := wrap64 (z := (i : Int) + 1) (by omega) (by omega)
        have ih := ih (i + 1) (by omega) (by omega)
        simp [-List.all_eq_true] at ih
        have he' : ¬ (40 : Int) < l[i].size := by omega
        simp [h, he, he', trim_le, hw, ih, hm, -List.all_eq_true]
      · have he' : (40 : Int) < l[i].size := by omega
        simp [h, he, he', trim_le, hm, -List.all_eq_true]
    · simp [h, trim_le]
      rw [List.drop_eq_nil_of_le (by omega)]
      simp

/-! ### slices.Index, Contains, IndexFunc, ContainsFunc at strings -/

/-- The place of the first element that satisfies a test, from 'k' on; or -1. -/
def idxF (p : ByteArray → Bool) (l : List ByteArray) (k : Nat) : Int := match l with
  | [] => -1
  | a :: l => if p a then k else idxF p l (k + 1)
theorem idxF_nil {p : ByteArray → Bool} {k : Nat} : idxF p [] k = -1 := rfl
theorem idxF_drop {p : ByteArray → Bool} {l : List ByteArray} {i : Nat} (h : i < l.length) : idxF p (l.drop i) i = if p l[i] then (i : Int) else idxF p (l.drop (i + 1)) (i + 1) := by
  rw [List.drop_eq_getElem_cons h]; rfl
theorem idxF_ge {p : ByteArray → Bool} : ∀ {l : List ByteArray} {k : Nat}, decide (0 ≤ idxF p l k) = l.any p
  | [], k => by simp [idxF]
  | a :: l, k => by
    unfold idxF
    cases h : p a with
    | true => simp [h]
    | false => simp only [Bool.false_eq_true, if_false, List.any_cons, h, Bool.false_or]; exact idxF_ge

theorem index_spec (x : Bool) (l : List ByteArray) (s : ByteArray) (hl : l.length ≤ maxLen) : pureCall E.P (L E) 37 [lst x (l.map .string), .string s] = some (.int .i64 (idxF (fun z => decide (z = s)) l 0)) := by
  unfold maxLen at hl
  rw [pureCall_fn F37 rfl]
  simp [r37, padS]
  rw [LL_rec (α := Nat) 0 (fun i => [(8, .int .i64 i)]) (fun _ => []) (fun i => if (l.drop i).any (fun z => decide (z = s)) then (.ret, [(4, .int .i64 (idxF (fun z => decide (z = s)) (l.drop i) i)), (8, undef)], []) else (.exit 0, [(8, undef)], [])) (fun i => i ≤ l.length) (fun i => l.length - i)]
  · have hg := idxF_ge (p := fun z => decide (z = s)) (l := l) (k := 0)
    cases h : l.any (fun z => decide (z = s))
    · have : idxF (fun z => decide (z = s)) l 0 = -1 := by
        have key : ∀ (l : List ByteArray) k, l.any (fun z => decide (z = s)) = false → idxF (fun z => decide (z = s)) l k = -1 := by
          intro l
          induction l with
          | nil => intro k _; rfl
          | cons a l ih =>
            intro k hk
            simp only [List.any_cons, Bool.or_eq_false_iff] at hk
            unfold idxF
            simp only [hk.1, Bool.false_eq_true, if_false]
            exact ih _ hk.2
        exact key l 0 h
      simp only [List.drop_zero, h, Bool.false_eq_true, if_false, this]
      simp [k37_2]
    · simp only [List.drop_zero, h, if_true]
      simp [k37_2]
  · simp
  · simp [k37_2]
  · rfl
  · intro nx i hi ih
    simp only [k37_2] at ih
    simp [r37_2, k37_2, -List.any_eq_true]
    by_cases h : i < l.length
    · have hm := idxF_drop (p := fun z => decide (z = s)) h
      have ha : (l.drop i).any (fun z => decide (z = s)) = (decide (l[i] = s) || (l.drop (i + 1)).any (fun z => decide (z = s))) := by
        rw [List.drop_eq_getElem_cons h]; rfl
      by_cases he : l[i] = s
      · simp [h, he, trim_le, hm, ha, -List.any_eq_true]
      · have hw := wrap64 (z := (i : Int) + 1) (by omega) (by omega)
        have ih := ih (i + 1) (by omega) (by omega)
        simp [-List.any_eq_true] at ih
        simp [h, he, Ne.symm he, trim_le, hw, ih, hm, ha, -List.any_eq_true]
    · simp [h, trim_le, -List.any_eq_true]
      rw [List.drop_eq_nil_of_le (by omega)]
      simp

end Go.Proofs.Ytippkkkddhnmhaa.Bm
