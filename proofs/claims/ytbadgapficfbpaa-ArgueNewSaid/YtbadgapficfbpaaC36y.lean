/-
  Chapter 36: what Why does ahead of its loop over the map. Conditions: the lists are those of a case.
-/
import Derived.Test.YtbadgapficfbpaaC36x
namespace Go.Proofs.Ytbadgapficfbpaa.Bm
open Go Go.RowKit

/-! ### The first of the attackers that are in -/
theorem firstF_or {L R : List Int} : ∀ (l : List Int) (b : Int), (∀ i ∈ l, 0 ≤ i) → (b = -1 ∨ (0 ≤ b ∧ getI L b = 1)) →
    (l.foldl (firstS L R) b = -1 ∧ b = -1 ∧ ∀ i ∈ l, getI L i ≠ 1) ∨ (0 ≤ l.foldl (firstS L R) b ∧ getI L (l.foldl (firstS L R) b) = 1 ∧ (l.foldl (firstS L R) b = b ∨ l.foldl (firstS L R) b ∈ l))
  | [], b, _, hb => by
    rcases hb with h | h
    · exact .inl ⟨h, h, fun i hi => by cases hi⟩
    · exact .inr ⟨h.1, h.2, .inl rfl⟩
  | i :: l, b, hl, hb => by
    have h0 := hl i (by simp)
    have hl' : ∀ i ∈ l, 0 ≤ i := fun j hj => hl j (by simp [hj])
    rw [List.foldl_cons]
    by_cases q : getI L i = 1 ∧ (b < 0 ∨ getI R i < getI R b)
    · have e : firstS L R b i = i := by unfold firstS; rw [if_pos q]
      rw [e]
      rcases firstF_or l i hl' (.inr ⟨h0, q.1⟩) with ⟨_, h, _⟩ | ⟨h1, h2, h3⟩
      · omega
      · exact .inr ⟨h1, h2, .inr (by rcases h3 with h | h <;> simp [h])⟩
    · have e : firstS L R b i = b := by unfold firstS; rw [if_neg q]
      rw [e]
      rcases firstF_or l b hl' hb with ⟨h1, h2, h3⟩ | ⟨h1, h2, h3⟩
      · refine .inl ⟨h1, h2, fun j hj => ?_⟩
        rcases List.mem_cons.1 hj with rfl | hj
        · exact fun hi => q ⟨hi, .inl (by omega)⟩
        · exact h3 j hj
      · exact .inr ⟨h1, h2, by rcases h3 with h | h <;> simp [h]⟩
theorem firstF_in {L R l : List Int} (hl : ∀ i ∈ l, 0 ≤ i) {i : Int} (hi : i ∈ l) (h1 : getI L i = 1) : firstF L R l ∈ l ∧ getI L (firstF L R l) = 1 := by
  rcases firstF_or (L := L) (R := R) l (-1) hl (.inl rfl) with ⟨_, _, h⟩ | ⟨q1, q2, q3⟩
  · exact absurd h1 (h i hi)
  · unfold firstF
    refine ⟨?_, q2⟩
    rcases q3 with h | h
    · rw [h] at q1; omega
    · exact h

/-- Whoever is in: his attackers each have an attacker that is in. -/
def goodI (A : List (List Int)) (i : Int) : Prop := dom A.length i ∧ getI (groundF A).1 i = 1
theorem good_first {A : List (List Int)} (hr : rightB A = true) {k : Int} (hk : dom A.length k) (h2 : getI (groundF A).1 k = 2) : goodI A (firstF (groundF A).1 (groundF A).2 (getL (graphF A) k)) ∧ firstF (groundF A).1 (groundF A).2 (getL (graphF A) k) ∈ getL (graphF A) k := by
  obtain ⟨i, hi, ha, h1, _⟩ := (ground_cert hr).out_ k hk h2
  have hm : i ∈ getL (graphF A) k := (memG hr hk).2 ⟨hi, ha⟩
  obtain ⟨q1, q2⟩ := firstF_in (L := (groundF A).1) (R := (groundF A).2) (l := getL (graphF A) k) (fun j hj => ((memG hr hk).1 hj).1.1) hm h1
  exact ⟨⟨((memG hr hk).1 q1).1, q2⟩, q1⟩
theorem good_ok {A : List (List Int)} (hr : rightB A = true) (i : Int) (hi : goodI A i) : 0 ≤ i ∧ i.toNat < A.length ∧ ∀ k ∈ getL (graphF A) i, 0 ≤ k ∧ k.toNat < A.length ∧ goodI A (firstF (groundF A).1 (groundF A).2 (getL (graphF A) k)) := by
  refine ⟨hi.1.1, hi.1.2, fun k hk => ?_⟩
  obtain ⟨hkd, ha⟩ := (memG hr hi.1).1 hk
  exact ⟨hkd.1, hkd.2, (good_first hr hkd (((ground_cert hr).in_ i hi.1 hi.2).2 k hkd ha).1).1⟩

/-- Of whom the reasons are sought, and what they are. -/
def whyC (A : List (List Int)) (c : Int) : Int := if getI (groundF A).1 c = 2 then firstF (groundF A).1 (groundF A).2 (getL (graphF A) c) else c
def whyS (A : List (List Int)) (c : Int) : List Int := needF (graphF A) (groundF A).1 (groundF A).2 (A.length + 1) [] (whyC A c)
theorem whyC_good {A : List (List Int)} (hr : rightB A = true) {c : Int} (hc : dom A.length c) (h0 : getI (groundF A).1 c ≠ 0) : goodI A (whyC A c) := by
  unfold whyC
  split
  · exact (good_first hr hc ‹_›).1
  · rename_i h2
    rcases (ground_cert hr).l01 c hc with h | h | h
    · exact absurd h h0
    · exact ⟨hc, h⟩
    · exact absurd h h2
theorem whyS_inv {A : List (List Int)} (hr : rightB A = true) {c : Int} (hc : dom A.length c) (h0 : getI (groundF A).1 c ≠ 0) : (whyS A c).Nodup ∧ (∀ z ∈ whyS A c, goodI A z) := by
  obtain ⟨h1, h2, _⟩ := needF_inv (goodI A) (fun i hi k hk => ((good_ok hr i hi).2.2 k hk).2.2) (A.length + 1) [] _ (by simp) (fun z hz => by cases hz) (whyC_good hr hc h0)
  exact ⟨h1, h2⟩
theorem nodup_dom_len {n : Nat} {S : List Int} (h : S.Nodup) (hd : ∀ z ∈ S, dom n z) : S.length ≤ n := by
  have := List.Nodup.length_le_of_subset (l₂ := (List.range n).map Int.ofNat) h fun z hz => by
    obtain ⟨q0, q1⟩ := hd z hz
    exact List.mem_map.2 ⟨z.toNat, List.mem_range.2 q1, by show ((z.toNat : Nat) : Int) = z; omega⟩
  simpa using this
theorem whyS_ne {A : List (List Int)} (c : Int) : whyS A c ≠ [] := by
  unfold whyS
  have key : ∀ (d : Nat) (S : List Int) (i : Int), S ≠ [] → needF (graphF A) (groundF A).1 (groundF A).2 d S i ≠ [] := by
    intro d
    induction d with
    | zero => intro S i h; exact h
    | succ d ih =>
      intro S i h
      unfold needF
      split
      · exact h
      · have : ∀ (l : List Int) (T : List Int), T ≠ [] → l.foldl (fun S k => needF (graphF A) (groundF A).1 (groundF A).2 d S (firstF (groundF A).1 (groundF A).2 (getL (graphF A) k))) T ≠ [] := by
          intro l
          induction l with
          | nil => intro T h; exact h
          | cons k l ihl => intro T h; exact ihl _ (ih _ _ h)
        exact this _ _ (by simp)
  unfold needF
  rw [if_neg (by simp)]
  have : ∀ (l : List Int) (T : List Int), T ≠ [] → l.foldl (fun S k => needF (graphF A) (groundF A).1 (groundF A).2 A.length S (firstF (groundF A).1 (groundF A).2 (getL (graphF A) k))) T ≠ [] := by
    intro l
    induction l with
    | nil => intro T h; exact h
    | cons k l ihl => intro T h; exact ihl _ (key _ _ _ h)
  exact this _ _ (by simp)

/-! ### The first half -/
def headR : Nat → RCode → RCode
  | 0, _ => .skip
  | n + 1, .seq a b => .seq a (headR n b)
  | _ + 1, _ => .skip
theorem head21 : rcOf E 21 (headC 11 body21) = headR 11 r21.body := by kernel_rfl
theorem ok21 : okCode (headC 11 body21) = true := by kernel_rfl
def fl21 : List Nat := (List.range 68).filter fun i => i != 10 && i != 12

set_option maxRecDepth 20000 in
theorem head_go (x : Bool) (l : List Claim) (c : Int) (hc : CaseOk l) (hl : l.length ≤ maxLen) (hr : rightB (atts l) = true) (hd : dom (atts l).length c) (h0 : getI (groundF (atts l)).1 c ≠ 0) :
    ∃ σ', evG E 21 (L E) LL 0 (headC 11 body21) (padS [lst x (l.map Claim.val), .int .i64 c] 68) [] = some (.normal, σ', nH (graphF (atts l)) (groundF (atts l)).1 (groundF (atts l)).2 (whyS (atts l) c)) ∧
      forget fl21 σ' = σP (pA 5) (.slice none 0 0) := by
  rw [code_eq, head21]
  have gs := grounded_spec x l hc hl
  rw [hr] at gs
  simp only [if_true] at gs
  have gr := graph_spec x l hc hr
  obtain ⟨hn, hat⟩ := right_at hr
  obtain ⟨hL, hR⟩ := ground_len (A := atts l)
  have hG := graphF_len (atts l)
  have hgi := graphF_in (atts l)
  have hgb := graphF_bound hr
  have hgood := good_ok hr
  have hwc := whyC_good hr hd h0
  have l01 := (ground_cert hr).l01 c hd
  have hG1 : ∀ k i, i ∈ getL (graphF (atts l)) k → 0 ≤ i ∧ i.toNat < (atts l).length := fun k i hi => by
    unfold getL at hi
    rw [List.getD_eq_getElem?_getD] at hi
    cases hq : (graphF (atts l))[k.toNat]? with
    | none => rw [hq] at hi; cases hi
    | some g => rw [hq] at hi; exact hgi g (List.mem_of_getElem? hq) i hi
  have hG2 : ∀ k, (getL (graphF (atts l)) k).length ≤ maxLen := fun k => by
    unfold getL maxLen
    rw [List.getD_eq_getElem?_getD]
    cases hq : (graphF (atts l))[k.toNat]? with
    | none => simp
    | some g => have := hgb g (List.mem_of_getElem? hq); simp; omega
  have nd := need_spec (G := graphF (atts l)) (Lb := (groundF (atts l)).1) (R := (groundF (atts l)).2) (n := (atts l).length) (goodI (atts l)) hgood hG1 hG hL hR hG2 ((atts l).length + 1) [] (whyC (atts l) c) (by simp) (fun z hz => by cases hz) (by simp) hwc
  have fs := first_spec (G := graphF (atts l)) (Lb := (groundF (atts l)).1) (R := (groundF (atts l)).2) (n := (atts l).length) (k := c) (hG1 c) hL hR hd.1 (by rw [hG]; exact hd.2) (hG2 c)
  have hlt : (c : Int) < (l.length : Int) := by have := hd.2; rw [atts_len] at this; have := hd.1; omega
  have h0' : ¬ c < 0 := by have := hd.1; omega
  have h1' : ¬ (l.length : Int) ≤ c := by omega
  have f1 : indexAddrT (.sl 3 ⟨some false, some 1⟩) (rowT (groundF (atts l)).1) (.int .i64 c) = some (cptr (.int .i64 (getI (groundF (atts l)).1 c))) := rowT_idx hd.1 (by rw [hL]; exact hd.2)
  have fitT : ∀ l, fitsTT ⟨some false, some 1⟩ (rowT l) = true := fun l => rfl
  have c1 : ∀ l, cellsOf (rowT l) = some [rowT l] := fun l => rfl
  have rc : ∀ h l, reifyC E.P 7 h [rowT l] = some [rowT l] := fun h l => reifyC_set rfl
  have n1 : flat Value.nilFunc = true := rfl
  have n2 : cellsOf Value.nilFunc = some [Value.nilFunc] := rfl
  have n3 : flat (Value.map none) = true := rfl
  have n4 : cellsOf (Value.map none) = some [Value.map none] := rfl
  have n5 : ∀ r, cellsOf (Value.map (some r)) = some [Value.map (some r)] := fun _ => rfl
  unfold whyS
  unfold whyC at nd hwc ⊢
  generalize hLb : (groundF (atts l)).1 = Lb at *
  generalize hRr : (groundF (atts l)).2 = Rr at *
  generalize hGr : graphF (atts l) = G at *
  generalize needF G Lb Rr ((atts l).length + 1) [] _ = S at *
  unfold nH pA at nd ⊢
  rw [show mapB (Value.int .i64) (setM []) = .map [] 0 from rfl] at nd
  by_cases h2 : getI Lb c = 2
  · rw [if_pos h2] at nd
    simp -implicitDefEqProofs [headR, r21, p21, ret4 m10, frzAll_lst, gs, h0', h1', n1, n2, n3, n4, n5, f1, h2, c1, ret1s m27, gr, ret0 m36, fs, rc, s23, a23, s43, a43, wrapP, ret2 m37, nd]
    show forget fl21 _ = σP _ _
    kernel_rfl
  · rw [if_neg h2] at nd
    simp -implicitDefEqProofs [headR, r21, p21, ret4 m10, frzAll_lst, gs, h0', h1', n1, n2, n3, n4, n5, f1, h0, h2, c1, ret1s m27, gr, ret2 m37, nd]
    show forget fl21 _ = σP _ _
    kernel_rfl

set_option maxRecDepth 20000 in
theorem head_no (x : Bool) (l : List Claim) (c : Int) (hc : CaseOk l) (hl : l.length ≤ maxLen) (hno : ¬ (rightB (atts l) = true ∧ dom (atts l).length c ∧ getI (groundF (atts l)).1 c ≠ 0)) :
    ∃ σ' h', evG E 21 (L E) LL 0 (headC 11 body21) (padS [lst x (l.map Claim.val), .int .i64 c] 68) [] = some (.ret, σ', h') ∧ slot σ' 4 = .slice none 0 0 := by
  rw [code_eq, head21]
  have gs := grounded_spec x l hc hl
  have c1 : ∀ l, cellsOf (rowT l) = some [rowT l] := fun l => rfl
  have fitT : ∀ l, fitsTT ⟨some false, some 1⟩ (rowT l) = true := fun l => rfl
  cases hr : rightB (atts l)
  · rw [hr] at gs
    simp -implicitDefEqProofs [headR, r21, p21, ret4 m10, frzAll_lst, gs]
  · rw [hr] at gs
    simp only [if_true] at gs
    by_cases h0 : c < 0
    · simp -implicitDefEqProofs [headR, r21, p21, ret4 m10, frzAll_lst, gs, h0, c1]
    · by_cases h1 : (l.length : Int) ≤ c
      · simp -implicitDefEqProofs [headR, r21, p21, ret4 m10, frzAll_lst, gs, h0, h1, c1]
      · have hd : dom (atts l).length c := ⟨by omega, by rw [atts_len]; omega⟩
        have h2 : getI (groundF (atts l)).1 c = 0 := Decidable.byContradiction fun e => hno ⟨hr, hd, e⟩
        obtain ⟨hL, hR⟩ := ground_len (A := atts l)
        have f1 : indexAddrT (.sl 3 ⟨some false, some 1⟩) (rowT (groundF (atts l)).1) (.int .i64 c) = some (cptr (.int .i64 (getI (groundF (atts l)).1 c))) := rowT_idx hd.1 (by rw [hL]; exact hd.2)
        simp -implicitDefEqProofs [headR, r21, p21, ret4 m10, frzAll_lst, gs, h0, h1, c1, f1, h2]

end Go.Proofs.Ytbadgapficfbpaa.Bm
