/-
  Chapter 36, plain: a further claim, and the case the other way round. Conditions: the case is right. No program in sight.
-/
import Derived.Test.YtbadgapficfbpaaC36t
namespace Go.Proofs.Ytbadgapficfbpaa.Bm
open Go Go.RowKit

/-! ### Right cases -/
theorem ascB_iff {n : Nat} : ∀ {l : List Int} {last : Int}, ascB n last l = true ↔ l.Pairwise (· < ·) ∧ ∀ k ∈ l, last < k ∧ k < n
  | [], last => by simp [ascB]
  | a :: l, last => by
    have ih := @ascB_iff n l a
    unfold ascB
    rw [Bool.and_eq_true, Bool.and_eq_true, decide_eq_true_eq, decide_eq_true_eq, ih, List.pairwise_cons]
    constructor
    · rintro ⟨⟨h1, h2⟩, h3, h4⟩
      refine ⟨⟨fun k hk => (h4 k hk).1, h3⟩, fun k hk => ?_⟩
      rcases List.mem_cons.1 hk with rfl | hk
      · exact ⟨h1, h2⟩
      · have := h4 k hk; omega
    · rintro ⟨⟨h1, h2⟩, h3⟩
      exact ⟨h3 a (by simp), h2, fun k hk => ⟨h1 k hk, (h3 k (by simp [hk])).2⟩⟩
theorem right_iff {A : List (List Int)} : rightB A = true ↔ (∀ a ∈ A, a.Pairwise (· < ·) ∧ ∀ k ∈ a, 0 ≤ k ∧ k < A.length) ∧ A.length ≤ 300 := by
  unfold rightB
  rw [Bool.and_eq_true, decide_eq_true_eq, List.all_eq_true]
  refine and_congr_left fun _ => forall_congr' fun a => forall_congr' fun _ => ?_
  rw [ascB_iff]
  refine and_congr_right fun _ => forall_congr' fun k => forall_congr' fun _ => ?_
  omega

/-! ### The case the other way round -/
def revA (n : Nat) (a : List Int) : List Int := a.reverse.map fun k => (n : Int) - 1 - k
def revM (A : List (List Int)) : List (List Int) := A.reverse.map (revA A.length)
def flip (n : Nat) (j : Int) : Int := (n : Int) - 1 - j
theorem flip_dom {n : Nat} {j : Int} (h : dom n j) : dom n (flip n j) := by
  unfold dom flip at *; omega
theorem flip_flip {n : Nat} {j : Int} : flip n (flip n j) = j := by unfold flip; omega
theorem revM_len {A : List (List Int)} : (revM A).length = A.length := by simp [revM]
theorem mem_revA {n : Nat} {a : List Int} {k : Int} : k ∈ revA n a ↔ flip n k ∈ a := by
  unfold revA flip
  rw [List.mem_map]
  constructor
  · rintro ⟨x, hx, rfl⟩
    rw [show (n : Int) - 1 - ((n : Int) - 1 - x) = x by omega]
    exact List.mem_reverse.1 hx
  · intro h
    exact ⟨_, List.mem_reverse.2 h, by omega⟩
theorem revM_right {A : List (List Int)} (hr : rightB A = true) : rightB (revM A) = true := by
  rw [right_iff] at hr ⊢
  rw [revM_len]
  refine ⟨fun a ha => ?_, hr.2⟩
  obtain ⟨b, hb, rfl⟩ := List.mem_map.1 ha
  obtain ⟨h1, h2⟩ := hr.1 b (List.mem_reverse.1 hb)
  constructor
  · unfold revA
    rw [List.pairwise_map, List.pairwise_reverse]
    exact h1.imp fun h => by omega
  · intro k hk
    have := h2 _ (mem_revA.1 hk)
    unfold flip at this; omega
theorem getL_revM {A : List (List Int)} {j : Int} (hj : dom A.length j) : getL (revM A) j = revA A.length (getL A (flip A.length j)) := by
  have h1 : j.toNat < A.length := hj.2
  have h2 := hj.1
  unfold getL revM flip
  rw [List.getD_eq_getElem?_getD, List.getD_eq_getElem?_getD, List.getElem?_map, List.getElem?_reverse h1]
  rw [show A.length - 1 - j.toNat = ((A.length : Int) - 1 - j).toNat by omega]
  have : ((A.length : Int) - 1 - j).toNat < A.length := by omega
  simp [this]
theorem att_revM {A : List (List Int)} {i j : Int} (hi : dom A.length i) : attB (revM A) (flip A.length i) (flip A.length j) = attB A i j := by
  unfold attB
  rw [getL_revM (flip_dom hi), flip_flip, Bool.eq_iff_iff, memI_mem, memI_mem, mem_revA, flip_flip]

theorem getI_rev {l : List Int} {n : Nat} (hl : l.length = n) {j : Int} (hj : dom n j) : getI l.reverse j = getI l (flip n j) := by
  have h1 : j.toNat < l.length := by rw [hl]; exact hj.2
  have h2 := hj.1
  unfold getI flip
  rw [List.getD_eq_getElem?_getD, List.getD_eq_getElem?_getD, List.getElem?_reverse h1]
  rw [show l.length - 1 - j.toNat = ((n : Int) - 1 - j).toNat by omega]

section
variable {A : List (List Int)} {L R L' R' : List Int}
theorem Cert.flip (h : Cert (revM A) L' R') (eL : ∀ j, dom A.length j → getI L j = getI L' (flip A.length j)) (eR : ∀ j, dom A.length j → getI R j = getI R' (Bm.flip A.length j)) : Cert A L R := by
  have dm : ∀ j, dom A.length j → dom (revM A).length (Bm.flip A.length j) := fun j hj => by rw [revM_len]; exact flip_dom hj
  have back : ∀ i, dom (revM A).length i → dom A.length (Bm.flip A.length i) := fun i hi => flip_dom (by rw [revM_len] at hi; exact hi)
  have at2 : ∀ i j, dom (revM A).length i → attB (revM A) i (Bm.flip A.length j) = attB A (Bm.flip A.length i) j := fun i j hi => by
    rw [← att_revM (back i hi), flip_flip]
  refine ⟨fun j hj => by rw [eL j hj]; exact h.l01 _ (dm j hj), fun j hj h1 => ?_, fun j hj h2 => ?_, fun j hj h0 => ?_⟩
  · rw [eL j hj] at h1
    obtain ⟨q1, q2⟩ := h.in_ _ (dm j hj) h1
    refine ⟨by rw [eR j hj]; exact q1, fun i hi ha => ?_⟩
    have := q2 _ (dm i hi) (by rw [att_revM hi]; exact ha)
    rw [eL i hi, eR i hi, eR j hj]; exact this
  · rw [eL j hj] at h2
    obtain ⟨i, hi, ha, q1, q2, q3⟩ := h.out_ _ (dm j hj) h2
    refine ⟨_, back i hi, by rw [← at2 i j hi]; exact ha, ?_⟩
    rw [eL _ (back i hi), eR _ (back i hi), eR j hj, flip_flip]
    exact ⟨q1, q2, q3⟩
  · rw [eL j hj] at h0
    obtain ⟨q1, q2, i, hi, ha, q3⟩ := h.open_ _ (dm j hj) h0
    refine ⟨by rw [eR j hj]; exact q1, fun i hi ha => ?_, _, back i hi, by rw [← at2 i j hi]; exact ha, by rw [eL _ (back i hi), flip_flip]; exact q3⟩
    rw [eL i hi]
    exact q2 _ (dm i hi) (by rw [att_revM hi]; exact ha)
theorem Exact.flip (h : Exact (revM A) L' R') (eL : ∀ j, dom A.length j → getI L j = getI L' (Bm.flip A.length j)) (eR : ∀ j, dom A.length j → getI R j = getI R' (Bm.flip A.length j)) : Exact A L R := by
  have dm : ∀ j, dom A.length j → dom (revM A).length (Bm.flip A.length j) := fun j hj => by rw [revM_len]; exact flip_dom hj
  have back : ∀ i, dom (revM A).length i → dom A.length (Bm.flip A.length i) := fun i hi => flip_dom (by rw [revM_len] at hi; exact hi)
  have at2 : ∀ i j, dom (revM A).length i → attB (revM A) i (Bm.flip A.length j) = attB A (Bm.flip A.length i) j := fun i j hi => by
    rw [← att_revM (back i hi), flip_flip]
  refine ⟨fun j hj h1 => ?_, fun j hj h2 => ?_, fun j hj h2 i hi ha h1 => ?_⟩
  · rw [eL j hj] at h1
    rw [eR j hj]
    refine (h.in_ _ (dm j hj) h1).imp id fun ⟨i, hi, ha, q⟩ => ⟨_, back i hi, by rw [← at2 i j hi]; exact ha, by rw [eR _ (back i hi), flip_flip]; exact q⟩
  · rw [eL j hj] at h2
    obtain ⟨i, hi, ha, q1, q2⟩ := h.out_ _ (dm j hj) h2
    refine ⟨_, back i hi, by rw [← at2 i j hi]; exact ha, ?_⟩
    rw [eL _ (back i hi), eR _ (back i hi), eR j hj, flip_flip]
    exact ⟨q1, q2⟩
  · rw [eL j hj] at h2
    rw [eL i hi] at h1
    rw [eR j hj, eR i hi]
    exact h.le_ _ (dm j hj) h2 _ (dm i hi) (by rw [att_revM hi]; exact ha) h1
end

theorem ground_flip {A : List (List Int)} (hr : rightB A = true) {j : Int} (hj : dom A.length j) : getI (groundF (revM A)).1 (flip A.length j) = getI (groundF A).1 j ∧ getI (groundF (revM A)).2 (flip A.length j) = getI (groundF A).2 j := by
  obtain ⟨l1, l2⟩ := ground_len (A := revM A)
  rw [revM_len] at l1 l2
  have eL : ∀ j, dom A.length j → getI (groundF (revM A)).1.reverse j = getI (groundF (revM A)).1 (flip A.length j) := fun j hj => getI_rev l1 hj
  have eR : ∀ j, dom A.length j → getI (groundF (revM A)).2.reverse j = getI (groundF (revM A)).2 (flip A.length j) := fun j hj => getI_rev l2 hj
  have c := (ground_cert (revM_right hr)).flip eL eR
  have e := (ground_exact (revM_right hr)).flip eL eR
  rw [← eL j hj, ← eR j hj]
  exact ⟨c.unique (ground_cert hr) hj, Exact.uniq c (ground_cert hr) e (ground_exact hr) hj⟩

/-! ### A further claim -/
theorem more_right {A : List (List Int)} (hr : rightB A = true) (hn : A.length < 300) {a : List Int} (ha : a.Pairwise (· < ·)) (hk : ∀ k ∈ a, 0 ≤ k ∧ k < A.length) : rightB (A ++ [a]) = true := by
  rw [right_iff] at hr ⊢
  rw [List.length_append, List.length_singleton]
  refine ⟨fun b hb => ?_, by omega⟩
  rcases List.mem_append.1 hb with hb | hb
  · exact ⟨(hr.1 b hb).1, fun k h => by have := (hr.1 b hb).2 k h; omega⟩
  · rw [List.mem_singleton.1 hb]
    exact ⟨ha, fun k h => by have := hk k h; omega⟩
theorem att_more {A : List (List Int)} {a : List Int} {i j : Int} (hi : dom A.length i) : attB (A ++ [a]) i j = attB A i j := by
  unfold attB getL
  rw [List.getD_eq_getElem?_getD, List.getD_eq_getElem?_getD, List.getElem?_append_left hi.2]
theorem att_last {A : List (List Int)} {a : List Int} {j : Int} : attB (A ++ [a]) (A.length : Int) j = memI a j := by
  unfold attB getL
  rw [List.getD_eq_getElem?_getD]
  simp
theorem dom_more {A : List (List Int)} {a : List Int} {j : Int} : dom (A ++ [a]).length j ↔ dom A.length j ∨ j = A.length := by
  unfold dom
  rw [List.length_append, List.length_singleton]; omega
theorem none_last {A : List (List Int)} (hr : rightB A = true) {a : List Int} (ha : memI a (A.length : Int) = false) (i : Int) (hi : dom (A ++ [a]).length i) : attB (A ++ [a]) i (A.length : Int) = false := by
  rcases dom_more.1 hi with h | rfl
  · rw [att_more h]
    cases hq : attB A i (A.length : Int) with
    | false => rfl
    | true => have := att_dom hr hq; unfold dom at this; omega
  · rw [att_last, ha]

/-- A further claim that attacks nothing. -/
theorem ground_more {A : List (List Int)} (hr : rightB A = true) (hn : A.length < 300) : (∀ j, dom A.length j → getI (groundF (A ++ [[]])).1 j = getI (groundF A).1 j) ∧ getI (groundF (A ++ [[]])).1 (A.length : Int) = 1 := by
  have hr2 := more_right hr hn (a := []) .nil (fun k hk => by cases hk)
  have c := ground_cert hr2
  have hl : ∀ j, memI [] j = false := fun _ => rfl
  have c2 : Cert A (groundF (A ++ [[]])).1 (groundF (A ++ [[]])).2 := by
    have up : ∀ j, dom A.length j → dom (A ++ [[]]).length j := fun j hj => dom_more.2 (.inl hj)
    have down : ∀ i j, dom (A ++ [[]]).length i → attB (A ++ [[]]) i j = true → dom A.length i ∧ attB A i j = true := fun i j hi ha => by
      rcases dom_more.1 hi with h | rfl
      · rw [att_more h] at ha; exact ⟨h, ha⟩
      · rw [att_last, hl] at ha; cases ha
    refine ⟨fun j hj => c.l01 j (up j hj), fun j hj h1 => ?_, fun j hj h2 => ?_, fun j hj h0 => ?_⟩
    · obtain ⟨q1, q2⟩ := c.in_ j (up j hj) h1
      exact ⟨q1, fun i hi ha => q2 i (up i hi) (by rw [att_more hi]; exact ha)⟩
    · obtain ⟨i, hi, ha, q⟩ := c.out_ j (up j hj) h2
      obtain ⟨hi, ha⟩ := down i j hi ha
      exact ⟨i, hi, ha, q⟩
    · obtain ⟨q1, q2, i, hi, ha, q3⟩ := c.open_ j (up j hj) h0
      obtain ⟨hi, ha⟩ := down i j hi ha
      exact ⟨q1, fun i hi ha => q2 i (up i hi) (by rw [att_more hi]; exact ha), i, hi, ha, q3⟩
  refine ⟨fun j hj => c2.unique (ground_cert hr) hj, (c.compl.in_ _ (dom_more.2 (.inr rfl))).2 fun i hi ha => ?_⟩
  rw [none_last hr (hl _) i hi] at ha; cases ha

/-- A further claim that attacks one. -/
theorem ground_hit {A : List (List Int)} (hr : rightB A = true) (hn : A.length < 300) {c : Int} (hc : dom A.length c) : getI (groundF (A ++ [[c]])).1 (A.length : Int) = 1 ∧ getI (groundF (A ++ [[c]])).2 (A.length : Int) = 1 ∧ getI (groundF (A ++ [[c]])).1 c = 2 ∧ getI (groundF (A ++ [[c]])).2 c = 2 := by
  have hr2 := more_right hr hn (a := [c]) (List.pairwise_singleton _ _) (fun k hk => by rw [List.mem_singleton.1 hk]; unfold dom at hc; omega)
  have ct := ground_cert hr2
  have ex := ground_exact hr2
  have hl : memI [c] (A.length : Int) = false := by
    unfold dom at hc
    simp [memI]; omega
  have dn : dom (A ++ [[c]]).length (A.length : Int) := dom_more.2 (.inr rfl)
  have dc : dom (A ++ [[c]]).length c := dom_more.2 (.inl hc)
  have h1 : getI (groundF (A ++ [[c]])).1 (A.length : Int) = 1 := (ct.compl.in_ _ dn).2 fun i hi ha => by rw [none_last hr hl i hi] at ha; cases ha
  have h2 : getI (groundF (A ++ [[c]])).2 (A.length : Int) = 1 := by
    rcases ex.in_ _ dn h1 with h | ⟨i, hi, ha, _⟩
    · exact h
    · rw [none_last hr hl i hi] at ha; cases ha
  have ha : attB (A ++ [[c]]) (A.length : Int) c = true := by rw [att_last]; simp [memI]
  have h3 : getI (groundF (A ++ [[c]])).1 c = 2 := (ct.compl.out_ _ dc).2 ⟨_, dn, ha, h1⟩
  refine ⟨h1, h2, h3, ?_⟩
  have h4 := ex.le_ c dc h3 _ dn ha h1
  obtain ⟨i, hi, _, _, h5, h6⟩ := ct.out_ c dc h3
  omega

/-- Whoever attacks himself is not in. -/
theorem self_out {A : List (List Int)} (hr : rightB A = true) {j : Int} (hj : dom A.length j) (ha : attB A j j = true) : getI (groundF A).1 j ≠ 1 := fun h1 => by
  have := ((ground_cert hr).in_ j hj h1).2 j hj ha
  rw [h1] at this; omega

end Go.Proofs.Ytbadgapficfbpaa.Bm
