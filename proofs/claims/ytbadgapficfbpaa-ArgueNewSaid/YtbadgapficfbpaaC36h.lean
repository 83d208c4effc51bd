/-
  Chapter 36, plain: what the checks say. Conditions: the case is right. No program in sight.
-/
import Derived.Test.YtbadgapficfbpaaC36q
import Derived.Test.YtbadgapficfbpaaC36f
namespace Go.Proofs.Ytbadgapficfbpaa.Bm
open Go Go.RowKit

theorem chk_fold {L R : List Int} {i : Int} : ∀ (g : List Int) (s : Chk), g.foldl (chkS L R i) s =
    ⟨s.a || g.any (fun k => decide (getI L k = 1)), s.b || g.any (fun k => decide (getI L k = 0)), s.c || g.any (fun k => decide (getI L k = 1) && decide (1 ≤ getI R k) && decide (getI R k < getI R i)),
      s.d && g.all (fun k => decide (getI L k = 2) && decide (getI R k < getI R i))⟩
  | [], s => by simp
  | k :: g, s => by
    rw [List.foldl_cons, chk_fold g]
    simp only [chkS, List.any_cons, List.all_cons, Bool.or_assoc, Bool.and_assoc]

theorem chkAt_iff {A : List (List Int)} (hr : rightB A = true) {L R : List Int} {j : Int} (hj : dom A.length j) : chkAt L R j (getL (graphF A) j) = true ↔
    (getI L j = 0 ∨ getI L j = 1 ∨ getI L j = 2) ∧
    (getI L j = 1 → 1 ≤ getI R j ∧ ∀ i, dom A.length i → attB A i j = true → getI L i = 2 ∧ getI R i < getI R j) ∧
    (getI L j = 2 → ∃ i, dom A.length i ∧ attB A i j = true ∧ getI L i = 1 ∧ 1 ≤ getI R i ∧ getI R i < getI R j) ∧
    (getI L j = 0 → getI R j = 0 ∧ (∀ i, dom A.length i → attB A i j = true → getI L i ≠ 1) ∧ ∃ i, dom A.length i ∧ attB A i j = true ∧ getI L i = 0) := by
  unfold chkAt
  rw [chk_fold]
  simp only [Bool.false_or, Bool.true_and]
  have mg := fun z => memG hr (z := z) hj
  by_cases z1 : getI L j = 1
  · simp only [z1, if_true, Bool.and_eq_true, decide_eq_true_eq, List.all_eq_true, mg]
    constructor
    · rintro ⟨h1, h2⟩
      exact ⟨.inr (.inl trivial), fun _ => ⟨h1, fun i hi ha => h2 i ⟨hi, ha⟩⟩, fun e => (by cases e), fun e => by cases e⟩
    · rintro ⟨_, h, _⟩
      obtain ⟨h1, h2⟩ := h trivial
      exact ⟨h1, fun i ⟨hi, ha⟩ => h2 i hi ha⟩
  · by_cases z2 : getI L j = 2
    · simp only [z2, show ¬ ((2 : Int) = 1) by decide, if_true, if_false, List.any_eq_true, Bool.and_eq_true, decide_eq_true_eq, mg]
      constructor
      · rintro ⟨i, ⟨hi, ha⟩, ⟨h1, h2⟩, h3⟩
        exact ⟨.inr (.inr trivial), fun e => (by cases e), fun _ => ⟨i, hi, ha, h1, h2, h3⟩, fun e => by cases e⟩
      · rintro ⟨_, _, h, _⟩
        obtain ⟨i, hi, ha, h1, h2, h3⟩ := h trivial
        exact ⟨i, ⟨hi, ha⟩, ⟨h1, h2⟩, h3⟩
    · by_cases z3 : getI L j = 0
      · simp only [z3, show ¬ ((0 : Int) = 1) by decide, show ¬ ((0 : Int) = 2) by decide, if_true, if_false, List.any_eq_true, Bool.and_eq_true, decide_eq_true_eq, Bool.not_eq_true', List.any_eq_false, mg]
        constructor
        · rintro ⟨⟨h1, h2⟩, i, ⟨hi, ha⟩, h3⟩
          exact ⟨.inl trivial, fun e => (by cases e), fun e => (by cases e), fun _ => ⟨h1, fun i hi ha => by simpa using h2 i ⟨hi, ha⟩, i, hi, ha, h3⟩⟩
        · rintro ⟨_, _, _, h⟩
          obtain ⟨h1, h2, i, hi, ha, h3⟩ := h trivial
          exact ⟨⟨h1, fun i ⟨hi, ha⟩ => by simpa using h2 i hi ha⟩, i, ⟨hi, ha⟩, h3⟩
      · simp [z1, z2, z3]

theorem chkG_iff {L R : List Int} : ∀ {G : List (List Int)} {i : Nat}, chkG L R G i = true ↔ ∀ t : Nat, t < G.length → chkAt L R ((i + t : Nat) : Int) (getL G (t : Int)) = true
  | [], i => by simp [chkG]
  | g :: G, i => by
    rw [show chkG L R (g :: G) i = (chkAt L R (i : Int) g && chkG L R G (i + 1)) from rfl, Bool.and_eq_true, chkG_iff]
    constructor
    · rintro ⟨h1, h2⟩ t ht
      cases t with
      | zero => rw [getL_cons0]; exact h1
      | succ t => rw [getL_consS, show i + (t + 1) = i + 1 + t by omega]; exact h2 t (by simpa using ht)
    · intro h
      refine ⟨by have := h 0 (by simp); rw [getL_cons0] at this; exact this, fun t ht => ?_⟩
      have := h (t + 1) (by simpa using ht)
      rw [getL_consS, show i + (t + 1) = i + 1 + t by omega] at this
      exact this

theorem chk_cert {A : List (List Int)} (hr : rightB A = true) {L R : List Int} : chkG L R (graphF A) 0 = true ↔ Cert A L R := by
  rw [chkG_iff]
  constructor
  · intro h
    have key : ∀ j, dom A.length j → chkAt L R j (getL (graphF A) j) = true := fun j hj => by
      have := h j.toNat (by rw [graphF_len]; exact hj.2)
      rw [Nat.zero_add, show ((j.toNat : Nat) : Int) = j by have := hj.1; omega] at this
      exact this
    exact ⟨fun j hj => ((chkAt_iff hr hj).1 (key j hj)).1, fun j hj => ((chkAt_iff hr hj).1 (key j hj)).2.1, fun j hj => ((chkAt_iff hr hj).1 (key j hj)).2.2.1, fun j hj => ((chkAt_iff hr hj).1 (key j hj)).2.2.2⟩
  · intro h t ht
    rw [graphF_len] at ht
    rw [Nat.zero_add]
    have hj : dom A.length (t : Int) := ⟨by omega, by simpa using ht⟩
    exact (chkAt_iff hr hj).2 ⟨h.l01 _ hj, h.in_ _ hj, h.out_ _ hj, h.open_ _ hj⟩

theorem check_zero {A : List (List Int)} (hr : rightB A = true) {L R : List Int} : checkF A L R = 0 ↔ (L.length = A.length ∧ R.length = A.length) ∧ Cert A L R := by
  unfold checkF
  rw [hr]
  simp only [if_true]
  rw [← chk_cert hr]
  by_cases h : L.length = A.length ∧ R.length = A.length
  · rw [if_pos h]
    cases chkG L R (graphF A) 0 <;> simp [h]
  · rw [if_neg h]; simp [h]
theorem check_19 {A : List (List Int)} (hr : rightB A = true) {L R : List Int} (h : ¬ ((L.length = A.length ∧ R.length = A.length) ∧ Cert A L R)) : checkF A L R = 19 := by
  have h0 := fun e => h ((check_zero hr).1 e)
  unfold checkF at h0 ⊢
  rw [hr] at h0 ⊢
  simp only [if_true] at h0 ⊢
  split
  · split
    · rename_i h1 h2
      rw [if_pos h1, if_pos h2] at h0
      exact absurd rfl h0
    · rfl
  · rfl

theorem ground_len {A : List (List Int)} : (groundF A).1.length = A.length ∧ (groundF A).2.length = A.length := by
  have := waves_len (A := A) (m := A.length + 1) (r := 1) (s := startS A)
  unfold groundF
  simp only
  rw [this.1, this.2]
  simp [startS, zerosI]

/-! ### Complete labellings -/

theorem complI_eq {L : List Int} {i : Nat} : ∀ (A : List (List Int)) (k : Nat) (s : Bool × Bool), complI L i A k s =
    (s.1 && (List.range A.length).all (fun t => !memI (getL A (t : Int)) (i : Int) || decide (getI L ((k + t : Nat) : Int) = 2)), s.2 || (List.range A.length).any (fun t => memI (getL A (t : Int)) (i : Int) && decide (getI L ((k + t : Nat) : Int) = 1)))
  | [], k, s => by simp [complI]
  | a :: A, k, s => by
    rw [complI, complI_eq A, List.length_cons, List.range_succ_eq_map, List.all_cons, List.any_cons, List.all_map, List.any_map, getL_cons0]
    have e1 : ((fun t : Nat => !memI (getL (a :: A) (t : Int)) (i : Int) || decide (getI L ((k + t : Nat) : Int) = 2)) ∘ Nat.succ) = fun t : Nat => !memI (getL A (t : Int)) (i : Int) || decide (getI L ((k + 1 + t : Nat) : Int) = 2) := by
      funext t
      show (!memI (getL (a :: A) ((t + 1 : Nat) : Int)) (i : Int) || decide (getI L ((k + (t + 1) : Nat) : Int) = 2)) = _
      rw [getL_consS, show k + (t + 1) = k + 1 + t by omega]
    have e2 : ((fun t : Nat => memI (getL (a :: A) (t : Int)) (i : Int) && decide (getI L ((k + t : Nat) : Int) = 1)) ∘ Nat.succ) = fun t : Nat => memI (getL A (t : Int)) (i : Int) && decide (getI L ((k + 1 + t : Nat) : Int) = 1) := by
      funext t
      show (memI (getL (a :: A) ((t + 1 : Nat) : Int)) (i : Int) && decide (getI L ((k + (t + 1) : Nat) : Int) = 1)) = _
      rw [getL_consS, show k + (t + 1) = k + 1 + t by omega]
    rw [e1, e2]
    unfold complS
    cases hm : memI a (i : Int) <;> simp [Bool.and_assoc, Bool.or_assoc]

theorem complAt_iff {A : List (List Int)} {L : List Int} {i : Nat} : complAt A L i = true ↔
    (getI L (i : Int) = 1 ↔ ∀ k, dom A.length k → attB A k (i : Int) = true → getI L k = 2) ∧ (getI L (i : Int) = 2 ↔ ∃ k, dom A.length k ∧ attB A k (i : Int) = true ∧ getI L k = 1) := by
  unfold complAt
  rw [complI_eq]
  simp only [Bool.true_and, Bool.false_or, Nat.zero_add, Bool.and_eq_true, decide_eq_true_eq]
  have e1 : (List.range A.length).all (fun t => !memI (getL A (t : Int)) (i : Int) || decide (getI L (t : Int) = 2)) = true ↔ ∀ k, dom A.length k → attB A k (i : Int) = true → getI L k = 2 := by
    simp only [List.all_eq_true, List.mem_range, Bool.or_eq_true, Bool.not_eq_true', decide_eq_true_eq]
    constructor
    · intro h k hk ha
      have := h k.toNat hk.2
      rw [show ((k.toNat : Nat) : Int) = k by have := hk.1; omega] at this
      unfold attB at ha
      rw [ha] at this
      simpa using this
    · intro h t ht
      cases hm : memI (getL A (t : Int)) (i : Int)
      · exact .inl rfl
      · exact .inr (h _ ⟨by omega, by simpa using ht⟩ hm)
  have e2 : (List.range A.length).any (fun t => memI (getL A (t : Int)) (i : Int) && decide (getI L (t : Int) = 1)) = true ↔ ∃ k, dom A.length k ∧ attB A k (i : Int) = true ∧ getI L k = 1 := by
    simp only [List.any_eq_true, List.mem_range, Bool.and_eq_true, decide_eq_true_eq]
    constructor
    · rintro ⟨t, h1, h2, h3⟩
      exact ⟨_, ⟨by omega, by simpa using h1⟩, h2, h3⟩
    · rintro ⟨k, hk, h2, h3⟩
      refine ⟨k.toNat, hk.2, ?_⟩
      rw [show ((k.toNat : Nat) : Int) = k by have := hk.1; omega]
      exact ⟨h2, h3⟩
  rw [← e1, ← e2]
  constructor
  · rintro ⟨h1, h2⟩
    rw [← h1, ← h2, decide_eq_true_eq, decide_eq_true_eq]
    exact ⟨Iff.rfl, Iff.rfl⟩
  · rintro ⟨h1, h2⟩
    exact ⟨Bool.eq_iff_iff.2 (by rw [decide_eq_true_eq]; exact h1), Bool.eq_iff_iff.2 (by rw [decide_eq_true_eq]; exact h2)⟩

theorem complG_iff {A : List (List Int)} {L : List Int} : ∀ {B : List (List Int)} {i : Nat}, complG A L B i = true ↔ ∀ t : Nat, t < B.length → complAt A L (i + t) = true
  | [], i => by simp [complG]
  | b :: B, i => by
    rw [show complG A L (b :: B) i = (complAt A L i && complG A L B (i + 1)) from rfl, Bool.and_eq_true, complG_iff]
    constructor
    · rintro ⟨h1, h2⟩ t ht
      cases t with
      | zero => exact h1
      | succ t => rw [show i + (t + 1) = i + 1 + t by omega]; exact h2 t (by simpa using ht)
    · intro h
      exact ⟨h 0 (by simp), fun t ht => by rw [show i + 1 + t = i + (t + 1) by omega]; exact h (t + 1) (by simpa using ht)⟩
theorem compl_iff {A : List (List Int)} {L : List Int} : complB A L = true ↔ Compl A L := by
  unfold complB
  rw [complG_iff]
  constructor
  · intro h
    have key := fun j (hj : dom A.length j) => complAt_iff.1 (h j.toNat hj.2)
    simp only [Nat.zero_add] at key
    refine ⟨fun j hj => ?_, fun j hj => ?_⟩
    · have := (key j hj).1
      rw [show ((j.toNat : Nat) : Int) = j by have := hj.1; omega] at this
      exact this
    · have := (key j hj).2
      rw [show ((j.toNat : Nat) : Int) = j by have := hj.1; omega] at this
      exact this
  · intro h t ht
    rw [Nat.zero_add]
    have hj : dom A.length (t : Int) := ⟨by omega, by simpa using ht⟩
    exact complAt_iff.2 ⟨h.in_ _ hj, h.out_ _ hj⟩

end Go.Proofs.Ytbadgapficfbpaa.Bm
