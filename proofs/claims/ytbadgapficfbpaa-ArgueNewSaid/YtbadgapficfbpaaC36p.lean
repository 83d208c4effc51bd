/-
  Chapter 36, plain: what the waves compute: a labelling with ranks that is its own certificate. Conditions: the case is right. No program in sight.
-/
import Derived.Test.YtbadgapficfbpaaC36g
namespace Go.Proofs.Ytbadgapficfbpaa.Bm
open Go Go.RowKit

def dom (n : Nat) (j : Int) : Prop := 0 ≤ j ∧ j.toNat < n
def attB (A : List (List Int)) (i j : Int) : Bool := memI (getL A i) j

/-! ### Folds -/

theorem inS_get {r : Int} {n : Nat} : ∀ (W : List Int) (s : List Int × List Int), s.1.length = n → s.2.length = n → (∀ i ∈ W, dom n i) → ∀ j, dom n j →
    getI (W.foldl (inS r) s).1 j = (if j ∈ W then 1 else getI s.1 j) ∧ getI (W.foldl (inS r) s).2 j = (if j ∈ W then r else getI s.2 j)
  | [], s, _, _, _, j, _ => by simp
  | i :: W, s, h1, h2, hW, j, hj => by
    have hi := hW i (by simp)
    have ih := inS_get (r := r) W (inS r s i) (by simpa [inS] using h1) (by simpa [inS] using h2) (fun k hk => hW k (by simp [hk])) j hj
    rw [List.foldl_cons, ih.1, ih.2]
    have e1 := getI_set (L := s.1) (k := i) (j := j) (v := 1) (by rw [h1]; exact hi.2)
    have e2 := getI_set (L := s.2) (k := i) (j := j) (v := r) (by rw [h2]; exact hi.2)
    have hij : (j.toNat = i.toNat) ↔ j = i := by have := hi.1; have := hj.1; omega
    unfold inS
    simp only [e1, e2, hij, List.mem_cons]
    by_cases h : j = i
    · simp [h]
    · simp [h]

structure OutGet (n : Nat) (r : Int) (K : List Int) (s s' : (List Int × List Int) × List Int) : Prop where
  lab : ∀ j, dom n j → getI s'.1.1 j = if getI s.1.1 j = 0 ∧ j ∈ K then 2 else getI s.1.1 j
  rk : ∀ j, dom n j → getI s'.1.2 j = if getI s.1.1 j = 0 ∧ j ∈ K then r + 1 else getI s.1.2 j
  out : ∀ j, dom n j → (j ∈ s'.2 ↔ j ∈ s.2 ∨ (getI s.1.1 j = 0 ∧ j ∈ K))
  nd : s.2.Nodup → (∀ j ∈ s.2, getI s.1.1 j ≠ 0) → s'.2.Nodup ∧ ∀ j ∈ s'.2, getI s'.1.1 j ≠ 0
theorem outS_get {r : Int} {n c : Nat} : ∀ (K : List Int) (s : (List Int × List Int) × List Int), OutInv n c s → (∀ i ∈ K, dom n i) → OutGet n r K s (K.foldl (outS r) s)
  | [], s, _, _ => ⟨fun j _ => by simp, fun j _ => by simp, fun j _ => by simp, fun h1 h2 => ⟨h1, h2⟩⟩
  | k :: K, s, hs, hK => by
    have hk := hK k (by simp)
    have hs' := hs.step (r := r) hk.1 hk.2
    have ih := outS_get (r := r) K (outS r s k) hs' (fun i hi => hK i (by simp [hi]))
    rw [List.foldl_cons]
    have hkl : k.toNat < s.1.1.length := by rw [hs.lab]; exact hk.2
    have hkr : k.toNat < s.1.2.length := by rw [hs.rk]; exact hk.2
    have hjk : ∀ j, dom n j → ((j.toNat = k.toNat) ↔ j = k) := fun j hj => by have := hk.1; have := hj.1; omega
    by_cases hz : getI s.1.1 k = 0
    · have eo : outS r s k = ((s.1.1.set k.toNat 2, s.1.2.set k.toNat (r + 1)), s.2 ++ [k]) := by unfold outS; rw [if_pos hz]
      rw [eo] at ih ⊢
      have e1 : ∀ j, dom n j → getI (s.1.1.set k.toNat 2) j = if j = k then 2 else getI s.1.1 j := fun j hj => by rw [getI_set hkl]; simp only [hjk j hj]
      have e2 : ∀ j, dom n j → getI (s.1.2.set k.toNat (r + 1)) j = if j = k then r + 1 else getI s.1.2 j := fun j hj => by rw [getI_set hkr]; simp only [hjk j hj]
      refine ⟨fun j hj => ?_, fun j hj => ?_, fun j hj => ?_, fun h1 h2 => ?_⟩
      · rw [ih.lab j hj]
        simp only [e1 j hj]
        by_cases h : j = k
        · subst h; simp [hz]
        · simp [h]
      · rw [ih.rk j hj]
        simp only [e1 j hj, e2 j hj]
        by_cases h : j = k
        · subst h; simp [hz]
        · simp [h]
      · rw [ih.out j hj]
        simp only [e1 j hj, List.mem_append, List.mem_cons]
        by_cases h : j = k
        · subst h; simp [hz]
        · simp [h]
      · refine ih.nd ?_ ?_
        · rw [List.nodup_append]
          exact ⟨h1, by simp, fun a ha b hb => by rw [List.mem_singleton.1 hb]; exact fun e => h2 a ha (e ▸ hz)⟩
        · intro j hj
          rcases List.mem_append.1 hj with hj | hj
          · have hd := hs.out j hj
            rw [e1 j hd]
            split
            · decide
            · exact h2 j hj
          · rw [List.mem_singleton.1 hj, e1 k hk]; simp
    · have eo : outS r s k = s := by unfold outS; rw [if_neg hz]
      rw [eo] at ih ⊢
      refine ⟨fun j hj => ?_, fun j hj => ?_, fun j hj => ?_, ih.nd⟩
      · rw [ih.lab j hj]
        by_cases h : j = k
        · subst h; simp [hz]
        · simp [h]
      · rw [ih.rk j hj]
        by_cases h : j = k
        · subst h; simp [hz]
        · simp [h]
      · rw [ih.out j hj]
        by_cases h : j = k
        · subst h; simp [hz]
        · simp [h]

theorem lessS_get {L : List Int} {n : Nat} : ∀ (K : List Int) (s : List Int × List Int), s.1.length = n → (∀ i ∈ K, dom n i) → ∀ j, dom n j →
    getI (K.foldl (lessS L) s).1 j = getI s.1 j - K.count j ∧ (j ∈ (K.foldl (lessS L) s).2 ↔ j ∈ s.2 ∨ (getI L j = 0 ∧ 1 ≤ getI s.1 j ∧ getI s.1 j ≤ K.count j))
  | [], s, _, _, j, _ => by simp; intro _ h; omega
  | k :: K, s, h1, hK, j, hj => by
    have hk := hK k (by simp)
    have ih := lessS_get (L := L) K (lessS L s k) (by simpa [lessS] using h1) (fun i hi => hK i (by simp [hi])) j hj
    rw [List.foldl_cons, ih.1, ih.2]
    have e1 := getI_set (L := s.1) (k := k) (j := j) (v := getI s.1 k - 1) (by rw [h1]; exact hk.2)
    have hjk : (j.toNat = k.toNat) ↔ j = k := by have := hk.1; have := hj.1; omega
    simp only [hjk] at e1
    unfold lessS
    simp only [e1, List.count_cons]
    by_cases h : j = k
    · subst h
      simp only [if_true, beq_self_eq_true]
      refine ⟨by omega, ?_⟩
      by_cases hz : getI s.1 j - 1 = 0 ∧ getI L j = 0
      · rw [if_pos hz]
        simp only [List.mem_append, List.mem_singleton, or_true, true_or, true_iff]
        exact .inr ⟨hz.2, by omega, by omega⟩
      · rw [if_neg hz]
        constructor
        · rintro (h | ⟨a, b, c⟩)
          · exact .inl h
          · exact .inr ⟨a, by omega, by omega⟩
        · rintro (h | ⟨a, b, c⟩)
          · exact .inl h
          · refine .inr ⟨a, ?_, by omega⟩
            have : ¬ (getI s.1 j - 1 = 0) := fun e => hz ⟨e, a⟩
            omega
    · have hkj : (k == j) = false := by simp; exact fun e => h e.symm
      simp only [h, if_false, hkj, Bool.false_eq_true, Nat.add_zero]
      refine ⟨trivial, ?_⟩
      have : j ∈ (if getI s.1 k - 1 = 0 ∧ getI L k = 0 then s.2 ++ [k] else s.2) ↔ j ∈ s.2 := by
        split
        · simp [h]
        · exact Iff.rfl
      rw [this]

/-! ### Counting attackers -/

theorem asc_nodup {n : Nat} : ∀ {l : List Int} {last : Int}, ascB n last l = true → l.Nodup
  | [], _, _ => .nil
  | a :: l, last, h => by
    simp only [ascB, Bool.and_eq_true] at h
    refine List.nodup_cons.2 ⟨fun ha => ?_, asc_nodup h.2⟩
    have := ascB_all h.2 a ha
    omega
theorem right_nodup {A : List (List Int)} (h : rightB A = true) (i : Int) : (getL A i).Nodup := by
  unfold getL
  rw [List.getD_eq_getElem?_getD]
  cases hq : A[i.toNat]? with
  | none => exact .nil
  | some a =>
    unfold rightB at h
    simp only [Bool.and_eq_true, List.all_eq_true] at h
    exact asc_nodup (h.1 a (List.mem_of_getElem? hq))

/-- How many of those that have not gone out attack a claim. -/
def cntA (A : List (List Int)) (lab : List Int) (j : Int) : Nat := (List.range A.length).countP fun (i : Nat) => attB A (i : Int) j && decide (getI lab (i : Int) ≠ 2)

theorem flat_count {A : List (List Int)} (h : rightB A = true) (j : Int) : ∀ (out : List Int), (out.flatMap (getL A)).count j = out.countP fun o => attB A o j
  | [] => rfl
  | o :: out => by
    rw [List.flatMap_cons, List.count_append, flat_count h j out, List.countP_cons]
    have hn := right_nodup h o
    cases hm : attB A o j
    · have : j ∉ getL A o := fun hj => by rw [attB, memI_mem.2 hj] at hm; cases hm
      rw [List.count_eq_zero.2 this]; simp
    · have : j ∈ getL A o := memI_mem.1 hm
      rw [List.Nodup.count hn, if_pos this]; simp; omega

theorem out_count {n : Nat} {out : List Int} (hn : out.Nodup) (hd : ∀ o ∈ out, dom n o) (p : Int → Bool) : out.countP p = (List.range n).countP fun (i : Nat) => p (i : Int) && decide ((i : Int) ∈ out) := by
  have hp : out.Perm (((List.range n).filter fun (i : Nat) => decide ((i : Int) ∈ out)).map fun (i : Nat) => (i : Int)) := by
    refine (List.perm_ext_iff_of_nodup hn ?_).2 fun z => ?_
    · refine List.Pairwise.map _ (fun a b (h : a ≠ b) (e : (a : Int) = b) => h (by omega)) ((List.nodup_range).filter _)
    · constructor
      · intro hz
        obtain ⟨h0, h1⟩ := hd z hz
        refine List.mem_map.2 ⟨z.toNat, List.mem_filter.2 ⟨List.mem_range.2 h1, ?_⟩, by omega⟩
        rw [show ((z.toNat : Nat) : Int) = z by omega]
        exact decide_eq_true hz
      · intro hz
        obtain ⟨i, hi, rfl⟩ := List.mem_map.1 hz
        exact of_decide_eq_true (List.mem_filter.1 hi).2
  rw [hp.countP_eq, List.countP_map, List.countP_filter]
  rfl

theorem countP_split {α : Type} (p q : α → Bool) : ∀ (l : List α), l.countP p = l.countP (fun a => p a && q a) + l.countP (fun a => p a && !q a)
  | [] => rfl
  | a :: l => by
    rw [List.countP_cons, List.countP_cons, List.countP_cons, countP_split p q l]
    cases p a <;> cases q a <;> simp <;> omega

end Go.Proofs.Ytbadgapficfbpaa.Bm
