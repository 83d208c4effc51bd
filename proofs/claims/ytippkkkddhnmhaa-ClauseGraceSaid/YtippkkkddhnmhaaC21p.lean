/-
  Chapter 21, plain: on which days rules apply, and the next day. Conditions: none. No program in sight.
-/
import Derived.Test.YtippkkkddhnmhaaC21c
namespace Go.Proofs.Ytippkkkddhnmhaa.Bm
open Go Go.RowKit

theorem memI_apply (zones : List ByteArray) (day : Int) : ∀ (l : List Rule) (k j : Nat), memI (applyF zones day l k) (j : Int) = (decide (k ≤ j) && (l[j - k]?).any (applies zones day))
  | [], k, j => by simp [applyF, memI]
  | r :: l, k, j => by
    have ih := memI_apply zones day l (k + 1) j
    have hc : ∀ m, memI ((k : Int) :: m) (j : Int) = (decide ((k : Int) = j) || memI m j) := fun _ => rfl
    unfold applyF
    rcases Nat.lt_trichotomy j k with h | h | h
    · have e1 : ¬ (k ≤ j) := by omega
      have e2 : ¬ (k + 1 ≤ j) := by omega
      have e3 : ¬ ((k : Int) = j) := by omega
      cases ha : applies zones day r <;> simp [hc, ih, e1, e2, e3]
    · subst h
      have e2 : ¬ (j + 1 ≤ j) := by omega
      cases ha : applies zones day r <;> simp [hc, ih, ha, e2]
    · have e1 : k ≤ j := by omega
      have e2 : k + 1 ≤ j := by omega
      have e3 : ¬ ((k : Int) = j) := by omega
      have e4 : (r :: l)[j - k]? = l[j - (k + 1)]? := by
        rw [show j - k = (j - (k + 1)) + 1 by omega]; rfl
      rw [e4]
      cases ha : applies zones day r <;> simp [hc, ih, e1, e2, e3]

theorem memI_at (zones : List ByteArray) (day : Int) (l : List Rule) {i : Nat} (h : i < l.length) : memI (applyF zones day l 0) (i : Int) = applies zones day l[i] := by
  rw [memI_apply]; simp [h]

theorem covers_congr {r : Rule} {a b : List ByteArray} (h : ∀ s, memB a s = memB b s) : coversB r a = coversB r b := by
  have : memB a = memB b := funext h
  unfold coversB; rw [this]

theorem apply_congr {zones zones' : List ByteArray} {day day' : Int} : ∀ (l : List Rule) (k : Nat), (∀ r ∈ l, applies zones day r = applies zones' day' r) → applyF zones day l k = applyF zones' day' l k
  | [], _, _ => rfl
  | r :: l, k, h => by
    unfold applyF
    rw [h r (by simp), apply_congr l (k + 1) fun r hr => h r (by simp [hr])]

def twice (l : List ByteArray) : List ByteArray := l.flatMap fun s => [s, s]
theorem memB_twice (l : List ByteArray) (s : ByteArray) : memB (twice l.reverse) s = memB l s := by
  simp only [memB, twice, List.any_flatMap, List.any_reverse, List.any_cons, List.any_nil, Bool.or_false, Bool.or_self]

/-! ### The next day -/

def vals (l : List Rule) : List Int := l.flatMap fun r => r.fr :: (if r.un = 0 then [] else [r.un])
theorem next_vals (day : Int) : ∀ (l : List Rule) (s : Int × Bool), l.foldl (nextR1 day) s = (vals l).foldl (tryN day) s
  | [], _ => rfl
  | r :: l, s => by
    rw [List.foldl_cons, next_vals day l]
    unfold vals
    rw [List.flatMap_cons, List.foldl_append]
    congr 1
    unfold nextR1
    split <;> rfl

structure NInv (day : Int) (d : List Int) (s : Int × Bool) : Prop where
  no : s.2 = false → s.1 = 0 ∧ ∀ v ∈ d, v ≤ day
  yes : s.2 = true → day < s.1 ∧ s.1 ∈ d ∧ ∀ v ∈ d, day < v → s.1 ≤ v

theorem NInv.step {day : Int} {d : List Int} {s : Int × Bool} (h : NInv day d s) (v : Int) : NInv day (d ++ [v]) (tryN day s v) := by
  obtain ⟨n, f⟩ := s
  unfold tryN
  split
  · rename_i hc
    refine ⟨fun e => (by cases e), fun _ => ⟨hc.1, by simp, fun u hu hd => ?_⟩⟩
    rcases List.mem_append.1 hu with hu | hu
    · cases f with
      | false => have := (h.no rfl).2 u hu; omega
      | true =>
        have := (h.yes rfl).2.2 u hu hd
        rcases hc.2 with e | e
        · cases e
        · simp only at e this ⊢; omega
    · simp at hu; subst hu; exact Int.le_refl _
  · rename_i hc
    constructor
    · intro e
      simp only at e
      subst e
      refine ⟨(h.no rfl).1, fun u hu => ?_⟩
      rcases List.mem_append.1 hu with hu | hu
      · exact (h.no rfl).2 u hu
      · simp at hu; subst hu
        by_cases hd : day < u
        · exact absurd ⟨hd, .inl rfl⟩ hc
        · omega
    · intro e
      simp only at e
      subst e
      obtain ⟨h1, h2, h3⟩ := h.yes rfl
      refine ⟨h1, by simp only at h2 ⊢; simp [h2], fun u hu hd => ?_⟩
      rcases List.mem_append.1 hu with hu | hu
      · exact h3 u hu hd
      · simp at hu; subst hu
        by_cases hn : u < n
        · exact absurd ⟨hd, .inr hn⟩ hc
        · simp only; omega

theorem NInv.fold {day : Int} : ∀ (l d : List Int) (s : Int × Bool), NInv day d s → NInv day (d ++ l) (l.foldl (tryN day) s)
  | [], d, s, h => by simpa using h
  | v :: l, d, s, h => by
    have := NInv.fold l (d ++ [v]) _ (h.step v)
    simpa using this

theorem next_inv (p : Plan) (day : Int) : NInv day (vals p.rules) (nextN p day) := by
  unfold nextN
  rw [next_vals]
  have : NInv day [] (0, false) := ⟨fun _ => ⟨rfl, fun v h => (by simp at h)⟩, fun e => (by cases e)⟩
  simpa using NInv.fold (vals p.rules) [] _ this

theorem mem_vals {l : List Rule} {v : Int} : v ∈ vals l ↔ ∃ r ∈ l, v = r.fr ∨ (r.un ≠ 0 ∧ v = r.un) := by
  unfold vals
  rw [List.mem_flatMap]
  constructor
  · rintro ⟨r, hr, hv⟩
    refine ⟨r, hr, ?_⟩
    rcases List.mem_cons.1 hv with e | e
    · exact .inl e
    · split at e
      · cases e
      · rename_i h0
        simp at e
        exact .inr ⟨h0, e⟩
  · rintro ⟨r, hr, e | ⟨h0, e⟩⟩
    · exact ⟨r, hr, by simp [e]⟩
    · exact ⟨r, hr, by simp [h0, e]⟩

/-- From a day to the day before the next one, the same rules are in force. -/
theorem force_same {p : Plan} {day later : Int} (h1 : day ≤ later) (h2 : (nextN p day).2 = true → later < (nextN p day).1) {r : Rule} (hr : r ∈ p.rules) : inForce r day = inForce r later := by
  have N := next_inv p day
  have key : ∀ v ∈ vals p.rules, day < v → later < v := by
    intro v hv hd
    cases hf : (nextN p day).2 with
    | false => have := (N.no hf).2 v hv; omega
    | true => have := (N.yes hf).2.2 v hv hd; have := h2 hf; omega
  have k1 := key r.fr (mem_vals.2 ⟨r, hr, .inl rfl⟩)
  unfold inForce
  by_cases h0 : r.un = 0
  · have e1 : (r.fr ≤ day) ↔ (r.fr ≤ later) := by
      constructor
      · intro h; omega
      · intro h; apply Decidable.byContradiction; intro hn; have := k1 (by omega); omega
    simp [h0, e1]
  · have k2 := key r.un (mem_vals.2 ⟨r, hr, .inr ⟨h0, rfl⟩⟩)
    have e1 : (r.fr ≤ day) ↔ (r.fr ≤ later) := by
      constructor
      · intro h; omega
      · intro h; apply Decidable.byContradiction; intro hn; have := k1 (by omega); omega
    have e2 : (day < r.un) ↔ (later < r.un) := by
      constructor
      · intro h; exact k2 h
      · intro h; omega
    simp [h0, e1, e2]

end Go.Proofs.Ytippkkkddhnmhaa.Bm
