/-
  Chapter 21, plain: the rules that apply, without one of them. Conditions: none. No program in sight.
-/
import Derived.Test.YtippkkkddhnmhaaC21p
namespace Go.Proofs.Ytippkkkddhnmhaa.Bm
open Go Go.RowKit

/-- The places, when the place 'n' is gone. -/
def wantF (n : Int) : List Int → List Int
  | [] => []
  | z :: l => if z < n then z :: wantF n l else if n < z then (z - 1) :: wantF n l else wantF n l

theorem wantF_app (n : Int) : ∀ a b, wantF n (a ++ b) = wantF n a ++ wantF n b
  | [], _ => rfl
  | z :: a, b => by
    have ih := wantF_app n a b
    simp only [List.cons_append, wantF, ih]
    split
    · rfl
    · split <;> rfl
theorem wantF_lo {n : Int} : ∀ {l : List Int}, (∀ z ∈ l, z < n) → wantF n l = l
  | [], _ => rfl
  | z :: l, h => by
    have ih := wantF_lo (l := l) fun z hz => h z (by simp [hz])
    have := h z (by simp)
    simp [wantF, this, ih]
theorem wantF_hi {n : Int} : ∀ {l : List Int}, (∀ z ∈ l, n < z) → wantF n l = l.map (· - 1)
  | [], _ => rfl
  | z :: l, h => by
    have ih := wantF_hi (l := l) fun z hz => h z (by simp [hz])
    have h1 := h z (by simp)
    have h2 : ¬ z < n := by omega
    simp [wantF, h1, h2, ih]

theorem applyF_app (zones : List ByteArray) (day : Int) : ∀ (a b : List Rule) (k : Nat), applyF zones day (a ++ b) k = applyF zones day a k ++ applyF zones day b (k + a.length)
  | [], b, k => rfl
  | r :: a, b, k => by
    have ih := applyF_app zones day a b (k + 1)
    rw [List.length_cons, show k + (a.length + 1) = k + 1 + a.length by omega]
    simp only [List.cons_append, applyF, ih]
    split <;> rfl
theorem applyF_bd (zones : List ByteArray) (day : Int) : ∀ (a : List Rule) (k : Nat), ∀ z ∈ applyF zones day a k, (k : Int) ≤ z ∧ z < k + a.length
  | [], _, z, h => by cases h
  | r :: a, k, z, h => by
    have ih := applyF_bd zones day a (k + 1)
    unfold applyF at h
    simp only [List.length_cons]
    split at h
    · rcases List.mem_cons.1 h with e | e
      · omega
      · have := ih z e; omega
    · have := ih z h; omega
theorem applyF_shift (zones : List ByteArray) (day : Int) : ∀ (a : List Rule) (k : Nat), (applyF zones day a (k + 1)).map (· - 1) = applyF zones day a k
  | [], _ => rfl
  | r :: a, k => by
    have ih := applyF_shift zones day a (k + 1)
    unfold applyF
    split
    · rw [List.map_cons, ih]; simp
    · exact ih

theorem want_apply (zones : List ByteArray) (day : Int) (l : List Rule) {n : Nat} (h : n < l.length) :
    wantF n (applyF zones day l 0) = applyF zones day (l.take n ++ l.drop (n + 1)) 0 := by
  have e : l = l.take n ++ ([l[n]] ++ l.drop (n + 1)) := by
    rw [List.singleton_append, ← List.drop_eq_getElem_cons h, List.take_append_drop]
  have hn : (l.take n).length = n := by rw [List.length_take]; omega
  have e1 : applyF zones day l 0 = applyF zones day (l.take n) 0 ++ (applyF zones day [l[n]] n ++ applyF zones day (l.drop (n + 1)) (n + 1)) := by
    conv => lhs; rw [e]
    rw [applyF_app, applyF_app, hn, Nat.zero_add]; rfl
  rw [e1, wantF_app, wantF_app, applyF_app, hn, Nat.zero_add]
  congr 1
  · exact wantF_lo fun z hz => by have := applyF_bd _ _ _ _ z hz; rw [hn] at this; omega
  · have em : wantF n (applyF zones day [l[n]] n) = [] := by
      simp only [applyF]
      split <;> simp [wantF]
    rw [em, List.nil_append, wantF_hi (l := applyF zones day (l.drop (n + 1)) (n + 1)) fun z hz => by have := applyF_bd _ _ _ _ z hz; omega, applyF_shift]

theorem one_apply (zones : List ByteArray) (day : Int) (l : List Rule) {n : Nat} (h : n < l.length) :
    decide ((applyF zones day [l[n]] 0).length = 1) = memI (applyF zones day l 0) (n : Int) := by
  rw [memI_at zones day l h]
  cases ha : applies zones day l[n] <;> simp [applyF, ha]

end Go.Proofs.Ytippkkkddhnmhaa.Bm
