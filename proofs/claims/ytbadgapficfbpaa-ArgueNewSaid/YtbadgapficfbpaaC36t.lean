/-
  Chapter 36, plain: the reasons of a claim are an admissible set. Conditions: the case is right. No program in sight.
-/
import Derived.Test.YtbadgapficfbpaaC36y
namespace Go.Proofs.Ytbadgapficfbpaa.Bm
open Go Go.RowKit

/-! ### What the search leaves is closed -/
section
variable {G : List (List Int)} {Lb R : List Int} {n : Nat} {good : Int → Prop}
theorem needF_closed (hgood : ∀ i, good i → 0 ≤ i ∧ i.toNat < n ∧ ∀ k ∈ getL G i, good (firstF Lb R (getL G k))) : ∀ (d : Nat) (S : List Int) (i : Int), S.Nodup → (∀ z ∈ S, good z) → good i → n + 1 ≤ S.length + d →
    (∀ z ∈ S, z ∈ needF G Lb R d S i) ∧ i ∈ needF G Lb R d S i ∧ ∀ z ∈ needF G Lb R d S i, z ∉ S → ∀ k ∈ getL G z, firstF Lb R (getL G k) ∈ needF G Lb R d S i
  | 0, S, i, hS, hg, _, hd => by
    have := nodup_dom_len (n := n) hS fun z hz => ⟨(hgood z (hg z hz)).1, (hgood z (hg z hz)).2.1⟩
    omega
  | d + 1, S, i, hS, hg, hi, hd => by
    unfold needF
    split
    · rename_i hm
      exact ⟨fun z hz => hz, List.contains_iff_mem.1 hm, fun z hz hn => absurd hz hn⟩
    · rename_i hm
      have hm : ¬ i ∈ S := fun h => hm (List.contains_iff_mem.2 h)
      have hS1 : (S ++ [i]).Nodup := by
        rw [List.nodup_append]
        refine ⟨hS, by simp, fun a ha b hb e => hm ?_⟩
        rw [List.mem_singleton.1 hb] at e
        exact e ▸ ha
      have hS2 : ∀ z ∈ S ++ [i], good z := fun z hz => by
        rcases List.mem_append.1 hz with hz | hz
        · exact hg z hz
        · rw [List.mem_singleton.1 hz]; exact hi
      have key : ∀ (l : List Int) (T : List Int), (∀ k ∈ l, good (firstF Lb R (getL G k))) → T.Nodup → (∀ z ∈ T, good z) → n + 1 ≤ T.length + d →
          (∀ z ∈ T, z ∈ l.foldl (fun S k => needF G Lb R d S (firstF Lb R (getL G k))) T) ∧ (∀ k ∈ l, firstF Lb R (getL G k) ∈ l.foldl (fun S k => needF G Lb R d S (firstF Lb R (getL G k))) T) ∧
          ∀ z ∈ l.foldl (fun S k => needF G Lb R d S (firstF Lb R (getL G k))) T, z ∉ T → ∀ k ∈ getL G z, firstF Lb R (getL G k) ∈ l.foldl (fun S k => needF G Lb R d S (firstF Lb R (getL G k))) T := by
        intro l
        induction l with
        | nil => intro T _ _ _ _; exact ⟨fun z hz => hz, fun k hk => (by cases hk), fun z hz hn => absurd hz hn⟩
        | cons k l ih =>
          intro T hl h1 h2 h3
          have hk := hl k (by simp)
          obtain ⟨c1, c2, c3⟩ := needF_closed hgood d T _ h1 h2 hk h3
          obtain ⟨v1, v2, v3⟩ := needF_inv good (fun i hi k hk => (hgood i hi).2.2 k hk) d T _ h1 h2 hk
          obtain ⟨i1, i2, i3⟩ := ih _ (fun x hx => hl x (by simp [hx])) v1 v2 (by omega)
          rw [List.foldl_cons]
          refine ⟨fun z hz => i1 z (c1 z hz), fun x hx => ?_, fun z hz hn x hx => ?_⟩
          · rcases List.mem_cons.1 hx with rfl | hx
            · exact i1 _ c2
            · exact i2 x hx
          · by_cases hz2 : z ∈ needF G Lb R d T (firstF Lb R (getL G k))
            · exact i1 _ (c3 z hz2 hn x hx)
            · exact i3 z hz hz2 x hx
      obtain ⟨k1, k2, k3⟩ := key (getL G i) (S ++ [i]) (fun k hk => (hgood i hi).2.2 k hk) hS1 hS2 (by simp; omega)
      refine ⟨fun z hz => k1 z (by simp [hz]), k1 i (by simp), fun z hz hn x hx => ?_⟩
      by_cases hzi : z = i
      · subst hzi; exact k2 x hx
      · exact k3 z hz (by simp [hn, hzi]) x hx
end

/-! ### Sets that are good -/

/-- A set of claims that are in, with the first attackers of all attackers. -/
structure Shut (A : List (List Int)) (W : List Int) : Prop where
  good : ∀ z ∈ W, goodI A z
  shut : ∀ z ∈ W, ∀ k ∈ getL (graphF A) z, firstF (groundF A).1 (groundF A).2 (getL (graphF A) k) ∈ W

theorem beats_iff {A : List (List Int)} {S : List Int} {c : Int} : beatsB A S c = true ↔ ∃ i ∈ S, attB A i c = true := by
  unfold beatsB attB
  rw [List.any_eq_true]
theorem known_of {A : List (List Int)} (hr : rightB A = true) {S : List Int} (h : ∀ z ∈ S, dom A.length z) : knownB A S = true := by
  unfold knownB
  rw [hr, Bool.true_and, Bool.not_eq_true', List.any_eq_false]
  intro z hz
  have := h z hz
  unfold dom at this
  simp only [Bool.or_eq_true, decide_eq_true_eq]
  omega

theorem Shut.defends {A : List (List Int)} (hr : rightB A = true) {W : List Int} (h : Shut A W) {c : Int} (hc : goodI A c) (hin : ∀ k ∈ getL (graphF A) c, firstF (groundF A).1 (groundF A).2 (getL (graphF A) k) ∈ W) : defB A W c = true := by
  unfold defB
  rw [known_of hr fun z hz => ?_, Bool.true_and, List.all_eq_true]
  · intro k hk
    obtain ⟨hkd, ha⟩ := (memG hr hc.1).1 hk
    have h2 := (((ground_cert hr).in_ c hc.1 hc.2).2 k hkd ha).1
    exact beats_iff.2 ⟨_, hin k hk, ((memG hr hkd).1 (good_first hr hkd h2).2).2⟩
  · rcases List.mem_cons.1 hz with rfl | hz
    · exact hc.1
    · exact (h.good z hz).1
theorem Shut.adm {A : List (List Int)} (hr : rightB A = true) {W : List Int} (h : Shut A W) : admB A W = true := by
  unfold admB
  rw [known_of hr fun z hz => (h.good z hz).1, Bool.true_and, List.all_eq_true]
  intro z hz
  rw [h.defends hr (h.good z hz) (h.shut z hz), Bool.and_true, Bool.not_eq_true']
  cases hb : beatsB A W z with
  | false => rfl
  | true =>
    obtain ⟨i, hi, ha⟩ := beats_iff.1 hb
    have h2 := (((ground_cert hr).in_ z (h.good z hz).1 (h.good z hz).2).2 i (h.good i hi).1 ha).1
    rw [(h.good i hi).2] at h2; cases h2

/-- All claims that are in. -/
def inG' (Lb : List Int) : List Int → Nat → List Int
  | [], _ => []
  | a :: l, i => if a = 1 then (i : Int) :: inG' Lb l (i + 1) else inG' Lb l (i + 1)
def inF (A : List (List Int)) : List Int := inG' (groundF A).1 (groundF A).1 0
theorem inG_mem {Lb : List Int} {z : Int} : ∀ {l : List Int} {i : Nat}, z ∈ inG' Lb l i ↔ ∃ t : Nat, t < l.length ∧ z = ((i + t : Nat) : Int) ∧ getI l (t : Int) = 1
  | [], i => by simp [inG']
  | a :: l, i => by
    have ih := inG_mem (Lb := Lb) (z := z) (l := l) (i := i + 1)
    have key : (∃ t : Nat, t < (a :: l).length ∧ z = ((i + t : Nat) : Int) ∧ getI (a :: l) (t : Int) = 1) ↔ ((z = (i : Int) ∧ a = 1) ∨ ∃ t : Nat, t < l.length ∧ z = ((i + 1 + t : Nat) : Int) ∧ getI l (t : Int) = 1) := by
      constructor
      · rintro ⟨t, h1, h2, h3⟩
        cases t with
        | zero => exact .inl ⟨by omega, h3⟩
        | succ t => exact .inr ⟨t, by simpa using h1, by omega, by simpa [getI] using h3⟩
      · rintro (⟨h1, h2⟩ | ⟨t, h1, h2, h3⟩)
        · exact ⟨0, by simp, by omega, h2⟩
        · exact ⟨t + 1, by simpa using h1, by omega, by simpa [getI] using h3⟩
    rw [key, ← ih, inG']
    by_cases h : a = 1
    · simp [h]
    · simp [h]
theorem inF_mem {A : List (List Int)} {z : Int} : z ∈ inF A ↔ goodI A z := by
  unfold inF goodI
  rw [inG_mem]
  constructor
  · rintro ⟨t, h1, rfl, h3⟩
    rw [Nat.zero_add]
    rw [ground_len.1] at h1
    exact ⟨⟨by omega, by simpa using h1⟩, h3⟩
  · rintro ⟨⟨h0, h1⟩, h2⟩
    exact ⟨z.toNat, by rw [ground_len.1]; exact h1, by omega, by rw [show ((z.toNat : Nat) : Int) = z by omega]; exact h2⟩
theorem inF_shut {A : List (List Int)} (hr : rightB A = true) : Shut A (inF A) :=
  ⟨fun _z hz => inF_mem.1 hz, fun z hz k hk => inF_mem.2 ((good_ok hr z (inF_mem.1 hz)).2.2 k hk).2.2⟩
theorem inF_def {A : List (List Int)} (hr : rightB A = true) {c : Int} (hc : dom A.length c) : defB A (inF A) c = decide (getI (groundF A).1 c = 1) := by
  by_cases h : getI (groundF A).1 c = 1
  · rw [(inF_shut hr).defends hr ⟨hc, h⟩ fun k hk => (inF_mem.2 ((good_ok hr c ⟨hc, h⟩).2.2 k hk).2.2)]
    exact (decide_eq_true h).symm
  · rw [decide_eq_false h]
    cases hd : defB A (inF A) c with
    | false => rfl
    | true =>
      refine absurd (((ground_cert hr).compl.in_ c hc).2 fun i hi ha => ?_) h
      unfold defB at hd
      rw [Bool.and_eq_true, List.all_eq_true] at hd
      obtain ⟨j, hj, ha2⟩ := beats_iff.1 (hd.2 i ((memG hr hc).2 ⟨hi, ha⟩))
      exact ((ground_cert hr).compl.out_ i hi).2 ⟨j, (inF_mem.1 hj).1, ha2, (inF_mem.1 hj).2⟩

/-! ### The reasons -/
theorem whyS_shut {A : List (List Int)} (hr : rightB A = true) {c : Int} (hc : dom A.length c) (h0 : getI (groundF A).1 c ≠ 0) : Shut A (whyS A c) ∧ whyC A c ∈ whyS A c := by
  obtain ⟨_, c2, c3⟩ := needF_closed (G := graphF A) (Lb := (groundF A).1) (R := (groundF A).2) (n := A.length) (good := goodI A) (fun i hi => ⟨(good_ok hr i hi).1, (good_ok hr i hi).2.1, fun k hk => ((good_ok hr i hi).2.2 k hk).2.2⟩) (A.length + 1) [] (whyC A c) (by simp) (fun z hz => by cases hz) (whyC_good hr hc h0) (by simp)
  exact ⟨⟨(whyS_inv hr hc h0).2, fun z hz k hk => c3 z hz (by simp) k hk⟩, c2⟩
theorem why_no {A : List (List Int)} {c : Int} (h0 : getI (groundF A).1 c = 0) : whyF A c = [] := by
  unfold whyF
  split
  · simp only; rw [if_pos h0]
  · rfl
theorem why_yes {A : List (List Int)} (hr : rightB A = true) {c : Int} (hc : dom A.length c) (h0 : getI (groundF A).1 c ≠ 0) : whyF A c = sortI (whyS A c) := by
  unfold whyF
  rw [if_pos ⟨hr, hc.1, by have := hc.1; have := hc.2; omega⟩]
  simp only
  rw [if_neg h0]
  rfl
theorem why_shut {A : List (List Int)} (hr : rightB A = true) {c : Int} (hc : dom A.length c) : Shut A (whyF A c) := by
  by_cases h0 : getI (groundF A).1 c = 0
  · rw [why_no h0]; exact ⟨fun z hz => (by cases hz), fun z hz => (by cases hz)⟩
  · rw [why_yes hr hc h0]
    have h := (whyS_shut hr hc h0).1
    have hm : ∀ z, z ∈ sortI (whyS A c) ↔ z ∈ whyS A c := fun z => (sortI_perm _).mem_iff
    exact ⟨fun z hz => h.good z ((hm z).1 hz), fun z hz k hk => (hm _).2 (h.shut z ((hm z).1 hz) k hk)⟩
theorem why_in {A : List (List Int)} (hr : rightB A = true) {c : Int} (hc : dom A.length c) (h1 : getI (groundF A).1 c = 1) : memI (whyF A c) c = true ∧ defB A (whyF A c) c = true := by
  have h0 : getI (groundF A).1 c ≠ 0 := by rw [h1]; decide
  have hm : c ∈ whyF A c := by
    rw [why_yes hr hc h0]
    have := (whyS_shut hr hc h0).2
    have e : whyC A c = c := by unfold whyC; rw [if_neg (by rw [h1]; decide)]
    rw [e] at this
    exact (sortI_perm _).mem_iff.2 this
  exact ⟨memI_mem.2 hm, (why_shut hr hc).defends hr ⟨hc, h1⟩ ((why_shut hr hc).shut c hm)⟩
theorem why_hit {A : List (List Int)} (hr : rightB A = true) {c : Int} (hc : dom A.length c) (h1 : getI (groundF A).1 c ≠ 1) : (whyF A c).any (fun z => attB A z c) = decide (getI (groundF A).1 c = 2) := by
  by_cases h2 : getI (groundF A).1 c = 2
  · rw [decide_eq_true h2, List.any_eq_true]
    have h0 : getI (groundF A).1 c ≠ 0 := by rw [h2]; decide
    have hm := (whyS_shut hr hc h0).2
    refine ⟨whyC A c, by rw [why_yes hr hc h0]; exact (sortI_perm _).mem_iff.2 hm, ?_⟩
    unfold whyC
    rw [if_pos h2]
    exact ((memG hr hc).1 (good_first hr hc h2).2).2
  · have h0 : getI (groundF A).1 c = 0 := by
      rcases (ground_cert hr).l01 c hc with e | e | e
      · exact e
      · exact absurd e h1
      · exact absurd e h2
    rw [why_no h0, decide_eq_false h2]; rfl

theorem why_sorted {A : List (List Int)} (hr : rightB A = true) {c : Int} (hc : dom A.length c) : (whyF A c).Pairwise (· < ·) := by
  by_cases h0 : getI (groundF A).1 c = 0
  · rw [why_no h0]; exact .nil
  · rw [why_yes hr hc h0]
    have hnd : (sortI (whyS A c)).Nodup := (sortI_perm _).nodup_iff.2 (whyS_inv hr hc h0).1
    have := (sortI_sorted (whyS A c)).and hnd
    exact this.imp fun ⟨h1, h2⟩ => by omega
theorem why_len {A : List (List Int)} (hr : rightB A = true) {c : Int} (hc : dom A.length c) : (whyF A c).length ≤ A.length := by
  by_cases h0 : getI (groundF A).1 c = 0
  · rw [why_no h0]; exact Nat.zero_le _
  · rw [why_yes hr hc h0, sortI_len]
    exact nodup_dom_len (whyS_inv hr hc h0).1 fun z hz => ((whyS_inv hr hc h0).2 z hz).1

end Go.Proofs.Ytbadgapficfbpaa.Bm
