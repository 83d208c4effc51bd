/-
 Chapter 36: the reference's grounded labelling, walked. Conditions: each lemma says its own.
-/
import Derived.Test.YtbadgapficfbpaaQT20
import Derived.Test.YtbadgapficfbpaaQT22
import Derived.Test.YtbadgapficfbpaaQT15
import Derived.Test.YtbadgapficfbpaaQT16
import Derived.Test.YtbadgapficfbpaaQT21
namespace Go.Proofs.Ytbadgapficfbpaa.Bm
open Go Go.RowKit
def inW (G : List (List Int)) (L : List Int) (r : Int) (i : Int) : Bool := decide (r.tmod 2 = 1) && decide (manyF L (getL G i) 2 = (getL G i).length)
def outW (G : List (List Int)) (L : List Int) (r : Int) (i : Int) : Bool := decide (r.tmod 2 = 0) && decide (0 < manyF L (getL G i) 1)
def cndR (G : List (List Int)) (L : List Int) (r : Int) (i : Int) : Bool := decide (getI L i = 0) && (inW G L r i || outW G L r i)
def valR (G : List (List Int)) (L : List Int) (r : Int) (i : Int) : Int := if inW G L r i = true then 1 else 2
def roundI (G : List (List Int)) (L : List Int) (r : Int) (s : List Int × List Int × Nat) (i : Nat) : List Int × List Int × Nat :=
 if cndR G L r (i : Int) = true then (s.1.set i (valR G L r (i : Int)), s.2.1.set i r, 0) else s
def stepR (G : List (List Int)) (n : Nat) (r : Int) (s : List Int × List Int × Nat) : List Int × List Int × Nat := (List.range n).foldl (roundI G s.1 r) (s.1, s.2.1, s.2.2 + 1)
def roundsR (G : List (List Int)) (n : Nat) : Nat → Int → List Int × List Int × Nat → List Int × List Int × Nat
 | 0, _, s => s
 | f + 1, r, s => if s.2.2 < 2 then roundsR G n f (r + 1) (stepR G n r s) else s
def msR (s : List Int × List Int × Nat) : Nat := 3 * s.1.count 0 + (2 - s.2.2)
theorem round_len {G : List (List Int)} {L : List Int} {r : Int} : ∀ (K : List Nat) (s : List Int × List Int × Nat), (K.foldl (roundI G L r) s).1.length = s.1.length ∧ (K.foldl (roundI G L r) s).2.1.length = s.2.1.length
 | [], s => ⟨rfl, rfl⟩
 | i :: K, s => by
  have ih := round_len (G := G) (L := L) (r := r) K (roundI G L r s i)
  rw [List.foldl_cons, ih.1, ih.2]
  unfold roundI
  split
  ·exact ⟨List.length_set, List.length_set⟩
  ·exact ⟨rfl, rfl⟩
theorem round_get {G : List (List Int)} {L : List Int} {r : Int} {n : Nat} : ∀ (K : List Nat) (s : List Int × List Int × Nat), s.1.length = n → s.2.1.length = n → (∀ i ∈ K, i < n) → ∀ j : Nat, j < n →
  getI (K.foldl (roundI G L r) s).1 (j : Int) = (if j ∈ K ∧ cndR G L r (j : Int) = true then valR G L r (j : Int) else getI s.1 (j : Int)) ∧
  getI (K.foldl (roundI G L r) s).2.1 (j : Int) = (if j ∈ K ∧ cndR G L r (j : Int) = true then r else getI s.2.1 (j : Int))
 | [], s, _, _, _, j, _ => by simp
 | i :: K, s, h1, h2, hK, j, hj => by
  have hi := hK i List.mem_cons_self
  have ih := round_get (G := G) (L := L) (r := r) K (roundI G L r s i) (by have := round_len (G := G) (L := L) (r := r) [i] s; exact this.1.trans h1) (by have := round_len (G := G) (L := L) (r := r) [i] s; exact this.2.trans h2) (fun k hk => hK k (List.mem_cons_of_mem _ hk)) j hj
  rw [List.foldl_cons, ih.1, ih.2]
  have e1 := getI_set (L := s.1) (k := (i : Int)) (j := (j : Int)) (v := valR G L r (i : Int)) (by rw [h1]; exact hi)
  have e2 := getI_set (L := s.2.1) (k := (i : Int)) (j := (j : Int)) (v := r) (by rw [h2]; exact hi)
  rw [Int.toNat_natCast, Int.toNat_natCast] at e1 e2
  unfold roundI
  by_cases hc : cndR G L r (i : Int) = true
  ·rw [if_pos hc]
   dsimp only
   rw [e1, e2]
   by_cases h : j = i
   ·subst h
    simp [hc]
   ·simp [h]
  ·rw [if_neg hc]
   by_cases h : j = i
   ·subst h
    simp [hc]
   ·simp [h]
theorem round_still {G : List (List Int)} {L : List Int} {r : Int} : ∀ (K : List Nat) (s : List Int × List Int × Nat), (K.foldl (roundI G L r) s).2.2 = if (K.any fun i => cndR G L r (i : Int)) = true then 0 else s.2.2
 | [], s => by simp
 | i :: K, s => by
  rw [List.foldl_cons, round_still K, List.any_cons]
  unfold roundI
  by_cases hc : cndR G L r (i : Int) = true
  ·simp [hc]
  ·rw [if_neg hc]
   simp [hc]
theorem round_count {G : List (List Int)} {L : List Int} {r : Int} {n : Nat} : ∀ (K : List Nat) (s : List Int × List Int × Nat), s.1.length = n → K.Nodup → (∀ i ∈ K, i < n) → (∀ i ∈ K, getI s.1 (i : Int) = getI L (i : Int)) →
  (K.foldl (roundI G L r) s).1.count 0 + (if (K.any fun i => cndR G L r (i : Int)) = true then 1 else 0) ≤ s.1.count 0
 | [], s, _, _, _, _ => by simp
 | i :: K, s, hl, hn, hK, hg => by
  have hi := hK i List.mem_cons_self
  obtain ⟨n1, n2⟩ := List.nodup_cons.1 hn
  have hgi := hg i List.mem_cons_self
  rw [List.foldl_cons, List.any_cons]
  by_cases hc : cndR G L r (i : Int) = true
  ·have e : roundI G L r s i = (s.1.set i (valR G L r (i : Int)), s.2.1.set i r, 0) := by unfold roundI; rw [if_pos hc]
   have hz : getI L (i : Int) = 0 := by
    unfold cndR at hc
    exact of_decide_eq_true (Bool.and_eq_true_iff.1 hc).1
   have hv : valR G L r (i : Int) ≠ 0 := by unfold valR; split <;> decide
   have hil : i < s.1.length := by omega
   have h0 : s.1[i] = 0 := by rw [← getI_nat hil, hgi, hz]
   have c1 := count_set0 (L := s.1) (k := i) (v := valR G L r (i : Int)) hil h0 hv
   have ih := round_count (G := G) (L := L) (r := r) K (roundI G L r s i) (by rw [e]; show (s.1.set i _).length = n; rw [List.length_set]; exact hl) n2 (fun k hk => hK k (List.mem_cons_of_mem _ hk)) (fun k hk => by
    rw [e]
    show getI (s.1.set i _) (k : Int) = _
    have := getI_set (L := s.1) (k := (i : Int)) (j := (k : Int)) (v := valR G L r (i : Int)) hil
    rw [Int.toNat_natCast, Int.toNat_natCast] at this
    have hki : ¬ k = i := fun e => n1 (by rw [← e]; exact hk)
    rw [this, if_neg hki]
    exact hg k (List.mem_cons_of_mem _ hk))
   have e1 : (roundI G L r s i).1.count 0 + 1 = s.1.count 0 := by rw [e]; exact c1
   rw [hc, Bool.true_or, if_pos rfl]
   omega
  ·have e : roundI G L r s i = s := by unfold roundI; rw [if_neg hc]
   have hc' : cndR G L r (i : Int) = false := Bool.eq_false_iff.2 hc
   rw [e, hc', Bool.false_or]
   exact round_count K s hl n2 (fun k hk => hK k (List.mem_cons_of_mem _ hk)) fun k hk => hg k (List.mem_cons_of_mem _ hk)
theorem msR_step {G : List (List Int)} {n : Nat} {r : Int} {s : List Int × List Int × Nat} (hl : s.1.length = n) (hs : s.2.2 < 2) : msR (stepR G n r s) < msR s := by
 have c := round_count (G := G) (L := s.1) (r := r) (n := n) (List.range n) (s.1, s.2.1, s.2.2 + 1) hl List.nodup_range (fun i hi => List.mem_range.1 hi) fun i _ => rfl
 have t := round_still (G := G) (L := s.1) (r := r) (List.range n) (s.1, s.2.1, s.2.2 + 1)
 unfold msR stepR
 rw [t]
 dsimp only at c t ⊢
 split
 ·rename_i q
  rw [if_pos q] at c
  omega
 ·rename_i q
  rw [if_neg q] at c
  omega
theorem many_all {L l : List Int} {v : Int} : manyF L l v = l.length ↔ ∀ i ∈ l, getI L i = v := by
 unfold manyF
 rw [List.countP_eq_length]
 simp
theorem many_pos {L l : List Int} {v : Int} : 0 < manyF L l v ↔ ∃ i ∈ l, getI L i = v := by
 unfold manyF
 rw [List.countP_pos_iff]
 simp
structure RInv (A : List (List Int)) (r : Int) (s : List Int × List Int × Nat) : Prop where
 l1 : s.1.length = A.length
 l2 : s.2.1.length = A.length
 r1 : 1 ≤ r
 s2 : s.2.2 ≤ 2
 rs : 1 + (s.2.2 : Int) ≤ r
 l01 : ∀ j, dom A.length j → getI s.1 j = 0 ∨ getI s.1 j = 1 ∨ getI s.1 j = 2
 zero : ∀ j, dom A.length j → getI s.1 j = 0 → getI s.2.1 j = 0
 pos : ∀ j, dom A.length j → getI s.1 j ≠ 0 → 1 ≤ getI s.2.1 j ∧ getI s.2.1 j < r - s.2.2
 odd : ∀ j, dom A.length j → getI s.1 j = 1 → getI s.2.1 j % 2 = 1
 even : ∀ j, dom A.length j → getI s.1 j = 2 → getI s.2.1 j % 2 = 0
 in_ : ∀ j, dom A.length j → getI s.1 j = 1 → ∀ i, dom A.length i → attB A i j = true → getI s.1 i = 2 ∧ getI s.2.1 i < getI s.2.1 j
 inx : ∀ j, dom A.length j → getI s.1 j = 1 → getI s.2.1 j = 1 ∨ ∃ i, dom A.length i ∧ attB A i j = true ∧ getI s.2.1 j = getI s.2.1 i + 1
 outx : ∀ j, dom A.length j → getI s.1 j = 2 → ∃ i, dom A.length i ∧ attB A i j = true ∧ getI s.1 i = 1 ∧ getI s.2.1 j = getI s.2.1 i + 1
 outy : ∀ j, dom A.length j → getI s.1 j = 2 → ∀ i, dom A.length i → attB A i j = true → getI s.1 i = 1 → getI s.2.1 j ≤ getI s.2.1 i + 1
 lateI : ∀ o, o % 2 = 1 → 1 ≤ o → r - 2 ≤ o → o < r → ∀ j, dom A.length j → getI s.1 j = 0 → ∃ i, dom A.length i ∧ attB A i j = true ∧ ¬ (getI s.1 i = 2 ∧ getI s.2.1 i < o)
 lateO : ∀ e, e % 2 = 0 → 2 ≤ e → r - 2 ≤ e → e < r → ∀ j, dom A.length j → getI s.1 j = 0 → ∀ i, dom A.length i → attB A i j = true → ¬ (getI s.1 i = 1 ∧ getI s.2.1 i < e)
theorem RInv.start {A : List (List Int)} : RInv A 1 (zerosI A.length, zerosI A.length, 0) where
 l1 := by unfold zerosI; simp
 l2 := by unfold zerosI; simp
 r1 := by omega
 s2 := Nat.zero_le _
 rs := by show 1 + ((0 : Nat) : Int) ≤ 1; decide
 l01 := fun j _ => .inl getI_zeros
 zero := fun j _ _ => getI_zeros
 pos := fun j _ h => absurd getI_zeros h
 odd := fun j _ h => by have h : getI (zerosI A.length) j = 1 := h; rw [getI_zeros] at h; omega
 even := fun j _ h => by have h : getI (zerosI A.length) j = 2 := h; rw [getI_zeros] at h; omega
 in_ := fun j _ h => by have h : getI (zerosI A.length) j = 1 := h; rw [getI_zeros] at h; omega
 inx := fun j _ h => by have h : getI (zerosI A.length) j = 1 := h; rw [getI_zeros] at h; omega
 outx := fun j _ h => by have h : getI (zerosI A.length) j = 2 := h; rw [getI_zeros] at h; omega
 outy := fun j _ h => by have h : getI (zerosI A.length) j = 2 := h; rw [getI_zeros] at h; omega
 lateI := fun o h1 h2 _ h4 => by omega
 lateO := fun e h1 h2 _ h4 => by omega
theorem RInv.step {A : List (List Int)} {r : Int} {s : List Int × List Int × Nat} (hr : rightB A = true) (h : RInv A r s) (hs : s.2.2 < 2) : RInv A (r + 1) (stepR (graphF A) A.length r s) := by
 have hr1 := h.r1
 have hm : r.tmod 2 = r % 2 := Int.tmod_eq_emod_of_nonneg (by omega)
 have cI : ∀ j, dom A.length j → (cndR (graphF A) s.1 r j = true ↔ getI s.1 j = 0 ∧ ((r % 2 = 1 ∧ ∀ i, dom A.length i → attB A i j = true → getI s.1 i = 2) ∨ (r % 2 = 0 ∧ ∃ i, dom A.length i ∧ attB A i j = true ∧ getI s.1 i = 1))) := fun j hj => by
  have mg := fun z => memG hr (z := z) hj
  unfold cndR inW outW
  simp only [Bool.and_eq_true, Bool.or_eq_true, decide_eq_true_eq, many_all, many_pos, mg, hm]
  constructor
  ·rintro ⟨a, ⟨b, c⟩ | ⟨b, i, ⟨c, d⟩, e⟩⟩
   ·exact ⟨a, .inl ⟨b, fun i hi ha => c i ⟨hi, ha⟩⟩⟩
   ·exact ⟨a, .inr ⟨b, i, c, d, e⟩⟩
  ·rintro ⟨a, ⟨b, c⟩ | ⟨b, i, c, d, e⟩⟩
   ·exact ⟨a, .inl ⟨b, fun i hi => c i hi.1 hi.2⟩⟩
   ·exact ⟨a, .inr ⟨b, i, ⟨c, d⟩, e⟩⟩
 have vI : ∀ j, dom A.length j → cndR (graphF A) s.1 r j = true → valR (graphF A) s.1 r j = if r % 2 = 1 then 1 else 2 := fun j hj hc => by
  have mg := fun z => memG hr (z := z) hj
  have := (cI j hj).1 hc
  have hin : inW (graphF A) s.1 r j = true ↔ (r % 2 = 1 ∧ ∀ i, (dom A.length i ∧ attB A i j = true) → getI s.1 i = 2) := by
   unfold inW
   rw [Bool.and_eq_true, decide_eq_true_eq, decide_eq_true_eq, many_all, hm]
   simp only [mg]
  unfold valR
  by_cases q : r % 2 = 1
  ·rw [if_pos q, if_pos]
   rw [hin]
   rcases this.2 with ⟨_, c⟩ | ⟨b, _⟩
   ·exact ⟨q, fun i hi => c i hi.1 hi.2⟩
   ·omega
  ·rw [if_neg q, if_neg fun e => q (hin.1 e).1]
 have key := fun j (hj : dom A.length j) => round_get (G := graphF A) (L := s.1) (r := r) (n := A.length) (List.range A.length) (s.1, s.2.1, s.2.2 + 1) h.l1 h.l2 (fun i hi => List.mem_range.1 hi) j.toNat hj.2
 have ej : ∀ j, dom A.length j → ((j.toNat : Nat) : Int) = j := fun j hj => by have := hj.1; omega
 have len := round_len (G := graphF A) (L := s.1) (r := r) (List.range A.length) (s.1, s.2.1, s.2.2 + 1)
 have st := round_still (G := graphF A) (L := s.1) (r := r) (List.range A.length) (s.1, s.2.1, s.2.2 + 1)
 obtain ⟨s', hs'⟩ : ∃ s', s' = stepR (graphF A) A.length r s := ⟨_, rfl⟩
 have es : (List.range A.length).foldl (roundI (graphF A) s.1 r) (s.1, s.2.1, s.2.2 + 1) = s' := hs'.symm
 rw [es] at len st
 simp only [es] at key
 rw [← hs']
 dsimp only at key len st
 have gL : ∀ j, dom A.length j → getI s'.1 j = if cndR (graphF A) s.1 r j = true then (if r % 2 = 1 then 1 else 2) else getI s.1 j := fun j hj => by
  have := (key j hj).1
  rw [ej j hj] at this
  rw [this]
  by_cases q : cndR (graphF A) s.1 r j = true
  ·rw [if_pos ⟨List.mem_range.2 hj.2, q⟩, if_pos q, vI j hj q]
  ·rw [if_neg fun e => q e.2, if_neg q]
 have gR : ∀ j, dom A.length j → getI s'.2.1 j = if cndR (graphF A) s.1 r j = true then r else getI s.2.1 j := fun j hj => by
  have := (key j hj).2
  rw [ej j hj] at this
  rw [this]
  by_cases q : cndR (graphF A) s.1 r j = true
  ·rw [if_pos ⟨List.mem_range.2 hj.2, q⟩, if_pos q]
  ·rw [if_neg fun e => q e.2, if_neg q]
 have stz : ∀ j, dom A.length j → cndR (graphF A) s.1 r j = true → s'.2.2 = 0 := fun j hj hc => by
  rw [st, if_pos]
  rw [List.any_eq_true]
  exact ⟨j.toNat, List.mem_range.2 hj.2, by rw [ej j hj]; exact hc⟩
 have stl : s'.2.2 = 0 ∨ s'.2.2 = s.2.2 + 1 := by
  rw [st]
  split
  ·exact .inl rfl
  ·exact .inr rfl
 -- by cases: newly labelled, or as before
 have newL : ∀ j, dom A.length j → (cndR (graphF A) s.1 r j = true ∧ getI s.1 j = 0 ∧ getI s'.1 j = (if r % 2 = 1 then 1 else 2) ∧ getI s'.2.1 j = r) ∨ (cndR (graphF A) s.1 r j = false ∧ getI s'.1 j = getI s.1 j ∧ getI s'.2.1 j = getI s.2.1 j) := fun j hj => by
  have a := gL j hj
  have b := gR j hj
  cases q : cndR (graphF A) s.1 r j with
  | true => rw [q] at a b; exact .inl ⟨rfl, ((cI j hj).1 q).1, a, b⟩
  | false => rw [q] at a b; exact .inr ⟨rfl, a, b⟩
 have hp : ∀ j, dom A.length j → getI s.1 j ≠ 0 → 1 ≤ getI s.2.1 j ∧ getI s.2.1 j < r := fun j hj h0 => by
  have := h.pos j hj h0
  omega
 refine ⟨by rw [len.1]; exact h.l1, by rw [len.2]; exact h.l2, by omega, by have := h.s2; omega, by have := h.rs; omega, ?_, ?_, ?_, ?_, ?_, ?_, ?_, ?_, ?_, ?_, ?_⟩
 ·intro j hj
  rcases newL j hj with ⟨_, _, a, _⟩ | ⟨_, a, _⟩
  ·rw [a]; split
   ·exact .inr (.inl rfl)
   ·exact .inr (.inr rfl)
  ·rw [a]; exact h.l01 j hj
 ·intro j hj h0
  rcases newL j hj with ⟨_, _, a, _⟩ | ⟨_, a, b⟩
  ·rw [a] at h0; split at h0 <;> cases h0
  ·rw [b]; exact h.zero j hj (a ▸ h0)
 ·intro j hj h0
  rcases newL j hj with ⟨c, _, a, b⟩ | ⟨_, a, b⟩
  ·rw [b, stz j hj c]; omega
  ·rw [a] at h0
   have := h.pos j hj h0
   rw [b]
   omega
 ·intro j hj h1
  rcases newL j hj with ⟨c, _, a, b⟩ | ⟨_, a, b⟩
  ·rw [b]; rw [a] at h1; split at h1
   ·assumption
   ·cases h1
  ·rw [b]; exact h.odd j hj (a ▸ h1)
 ·intro j hj h1
  rcases newL j hj with ⟨c, _, a, b⟩ | ⟨_, a, b⟩
  ·rw [b]; rw [a] at h1; split at h1
   ·cases h1
   ·omega
  ·rw [b]; exact h.even j hj (a ▸ h1)
 ·intro j hj h1 i hi ha
  have hi' : getI s.1 i = 2 ∧ (getI s'.2.1 j = r ∨ getI s.2.1 i < getI s'.2.1 j) := by
   rcases newL j hj with ⟨c, _, a, b⟩ | ⟨_, a, b⟩
   ·have := ((cI j hj).1 c).2
    rw [a] at h1
    rcases this with ⟨_, d⟩ | ⟨d, _⟩
    ·exact ⟨d i hi ha, .inl b⟩
    ·rw [if_neg (by omega)] at h1; cases h1
   ·have := h.in_ j hj (a ▸ h1) i hi ha
    exact ⟨this.1, .inr (by rw [b]; exact this.2)⟩
  have hpi := hp i hi (by rw [hi'.1]; decide)
  rcases newL i hi with ⟨_, z, _, _⟩ | ⟨_, a2, b2⟩
  ·rw [hi'.1] at z; cases z
  ·rw [a2, b2]
   refine ⟨hi'.1, ?_⟩
   rcases hi'.2 with e | e <;> omega
 ·intro j hj h1
  rcases newL j hj with ⟨c, z, a, b⟩ | ⟨_, a, b⟩
  ·rw [a] at h1
   have c2 := ((cI j hj).1 c).2
   rcases c2 with ⟨d1, d⟩ | ⟨d, _⟩
   ·by_cases r1 : r = 1
    ·left; rw [b]; exact r1
    ·right
     obtain ⟨i, hi, ha, hn⟩ := h.lateI (r - 2) (by omega) (by omega) (by omega) (by omega) j hj z
     have hi2 := d i hi ha
     have hpi := hp i hi (by rw [hi2]; decide)
     have hev := h.even i hi hi2
     have : ¬ getI s.2.1 i < r - 2 := fun q => hn ⟨hi2, q⟩
     refine ⟨i, hi, ha, ?_⟩
     rcases newL i hi with ⟨_, z2, _, _⟩ | ⟨_, _, b2⟩
     ·rw [hi2] at z2; cases z2
     ·rw [b, b2]; omega
   ·rw [if_neg (by omega)] at h1; cases h1
  ·rcases h.inx j hj (a ▸ h1) with e | ⟨i, hi, ha, e⟩
   ·left; rw [b]; exact e
   ·right
    have hi2 := (h.in_ j hj (a ▸ h1) i hi ha).1
    refine ⟨i, hi, ha, ?_⟩
    rcases newL i hi with ⟨_, z2, _, _⟩ | ⟨_, _, b2⟩
    ·rw [hi2] at z2; cases z2
    ·rw [b, b2]; exact e
 ·intro j hj h2
  rcases newL j hj with ⟨c, z, a, b⟩ | ⟨_, a, b⟩
  ·rw [a] at h2
   have c2 := ((cI j hj).1 c).2
   rcases c2 with ⟨d, _⟩ | ⟨d1, i, hi, ha, e⟩
   ·rw [if_pos d] at h2; cases h2
   ·have hpi := hp i hi (by rw [e]; decide)
    have hod := h.odd i hi e
    have hlast : r - 1 ≤ getI s.2.1 i := by
     by_cases r2 : r = 2
     ·omega
     ·have := h.lateO (r - 2) (by omega) (by omega) (by omega) (by omega) j hj z i hi ha
      have : ¬ getI s.2.1 i < r - 2 := fun q => this ⟨e, q⟩
      omega
    refine ⟨i, hi, ha, ?_⟩
    rcases newL i hi with ⟨_, z2, _, _⟩ | ⟨_, a2, b2⟩
    ·rw [e] at z2; cases z2
    ·rw [a2, b, b2]; exact ⟨e, by omega⟩
  ·obtain ⟨i, hi, ha, e1, e2⟩ := h.outx j hj (a ▸ h2)
   refine ⟨i, hi, ha, ?_⟩
   rcases newL i hi with ⟨_, z2, _, _⟩ | ⟨_, a2, b2⟩
   ·rw [e1] at z2; cases z2
   ·rw [a2, b, b2]; exact ⟨e1, e2⟩
 ·intro j hj h2 i hi ha hi1
  rcases newL j hj with ⟨c, z, a, b⟩ | ⟨_, a, b⟩
  ·rw [a] at h2
   have c2 := ((cI j hj).1 c).2
   rcases c2 with ⟨d, _⟩ | ⟨d1, _⟩
   ·rw [if_pos d] at h2; cases h2
   ·rcases newL i hi with ⟨_, z2, a3, b2⟩ | ⟨_, a2, b2⟩
    ·rw [a3, if_neg (by omega)] at hi1; cases hi1
    ·rw [a2] at hi1
     have hpi := hp i hi (by rw [hi1]; decide)
     have hod := h.odd i hi hi1
     rw [b, b2]
     by_cases r2 : r = 2
     ·omega
     ·have := h.lateO (r - 2) (by omega) (by omega) (by omega) (by omega) j hj z i hi ha
      have : ¬ getI s.2.1 i < r - 2 := fun q => this ⟨hi1, q⟩
      omega
  ·have hpj := hp j hj (by rw [← a, h2]; decide)
   rcases newL i hi with ⟨_, z2, a3, b2⟩ | ⟨_, a2, b2⟩
   ·rw [b, b2]; omega
   ·rw [b, b2]; exact h.outy j hj (a ▸ h2) i hi ha (a2 ▸ hi1)
 ·intro o ho1 ho2 ho3 ho4 j hj h0
  rcases newL j hj with ⟨_, _, a, _⟩ | ⟨c, a, b⟩
  ·rw [a] at h0; split at h0 <;> cases h0
  rw [a] at h0
  by_cases q : o = r
  ·-- this round was odd
   have hnc : ¬ (∀ i, dom A.length i → attB A i j = true → getI s.1 i = 2) := fun all => by
    have := (cI j hj).2 ⟨h0, .inl ⟨by omega, all⟩⟩
    rw [c] at this; cases this
   apply Classical.byContradiction
   intro hno
   refine hnc fun i hi ha => ?_
   apply Classical.byContradiction
   intro hi2
   refine hno ⟨i, hi, ha, fun e => ?_⟩
   rcases newL i hi with ⟨_, _, a3, b2⟩ | ⟨_, a2, _⟩
   ·rw [a3, if_pos (by omega)] at e
    cases e.1
   ·rw [a2] at e
    exact hi2 e.1
  ·obtain ⟨i, hi, ha, hn⟩ := h.lateI o ho1 ho2 (by omega) (by omega) j hj h0
   refine ⟨i, hi, ha, fun e => hn ?_⟩
   rcases newL i hi with ⟨_, _, a3, b2⟩ | ⟨_, a2, b2⟩
   ·rw [b2] at e; omega
   ·rw [a2, b2] at e; exact e
 ·intro e he1 he2 he3 he4 j hj h0 i hi ha hn
  rcases newL j hj with ⟨_, _, a, _⟩ | ⟨c, a, b⟩
  ·rw [a] at h0; split at h0 <;> cases h0
  rw [a] at h0
  by_cases q : e = r
  ·have hnc : ¬ (getI s.1 i = 1) := fun h1 => by
    have := (cI j hj).2 ⟨h0, .inr ⟨by omega, i, hi, ha, h1⟩⟩
    rw [c] at this; cases this
   rcases newL i hi with ⟨_, _, a3, b2⟩ | ⟨_, a2, _⟩
   ·rw [a3, if_neg (by omega)] at hn
    cases hn.1
   ·rw [a2] at hn
    exact hnc hn.1
  ·refine h.lateO e he1 he2 (by omega) (by omega) j hj h0 i hi ha ?_
   rcases newL i hi with ⟨_, _, a3, b2⟩ | ⟨_, a2, b2⟩
   ·rw [b2] at hn; omega
   ·rw [a2, b2] at hn; exact hn
theorem rounds_end {A : List (List Int)} (hr : rightB A = true) : ∀ (f : Nat) (r : Int) (s : List Int × List Int × Nat), msR s ≤ f → RInv A r s → ∃ r', RInv A r' (roundsR (graphF A) A.length f r s) ∧ (roundsR (graphF A) A.length f r s).2.2 = 2
 | 0, r, s, hf, h => ⟨r, h, by have := h.s2; unfold msR at hf; show s.2.2 = 2; omega⟩
 | f + 1, r, s, hf, h => by
  unfold roundsR
  split
  ·rename_i q
   exact rounds_end hr f (r + 1) _ (by have := msR_step (G := graphF A) (r := r) h.l1 q; omega) (h.step hr q)
  ·exact ⟨r, h, by have := h.s2; omega⟩
theorem RInv.cert {A : List (List Int)} {r : Int} {s : List Int × List Int × Nat} (h : RInv A r s) (hs : s.2.2 = 2) : Cert A s.1 s.2.1 ∧ Exact A s.1 s.2.1 := by
 have hr1 := h.r1
 have hp : ∀ j, dom A.length j → getI s.1 j ≠ 0 → 1 ≤ getI s.2.1 j ∧ getI s.2.1 j < r - 2 := fun j hj h0 => by
  have := h.pos j hj h0
  rw [hs] at this
  exact this
 refine ⟨⟨h.l01, fun j hj h1 => ⟨(hp j hj (by rw [h1]; decide)).1, h.in_ j hj h1⟩, fun j hj h2 => ?_, fun j hj h0 => ⟨h.zero j hj h0, ?_⟩⟩, ⟨fun j hj h1 => h.inx j hj h1, h.outx, h.outy⟩⟩
 ·obtain ⟨i, hi, ha, e1, e2⟩ := h.outx j hj h2
  exact ⟨i, hi, ha, e1, (hp i hi (by rw [e1]; decide)).1, by omega⟩
 ·have hrs := h.rs
  rw [hs] at hrs
  have hno : ∀ i, dom A.length i → attB A i j = true → getI s.1 i ≠ 1 := fun i hi ha e => by
   have hpi := hp i hi (by rw [e]; decide)
   by_cases q : r % 2 = 1
   ·exact h.lateO (r - 1) (by omega) (by omega) (by omega) (by omega) j hj h0 i hi ha ⟨e, by omega⟩
   ·exact h.lateO (r - 2) (by omega) (by omega) (by omega) (by omega) j hj h0 i hi ha ⟨e, by omega⟩
  refine ⟨hno, ?_⟩
  obtain ⟨i, hi, ha, hn⟩ : ∃ i, dom A.length i ∧ attB A i j = true ∧ getI s.1 i ≠ 2 := by
   by_cases q : r % 2 = 1
   ·obtain ⟨i, hi, ha, hn⟩ := h.lateI (r - 2) (by omega) (by omega) (by omega) (by omega) j hj h0
    refine ⟨i, hi, ha, fun e => hn ⟨e, ?_⟩⟩
    have hpi := hp i hi (by rw [e]; decide)
    omega
   ·obtain ⟨i, hi, ha, hn⟩ := h.lateI (r - 1) (by omega) (by omega) (by omega) (by omega) j hj h0
    refine ⟨i, hi, ha, fun e => hn ⟨e, ?_⟩⟩
    have hpi := hp i hi (by rw [e]; decide)
    omega
  refine ⟨i, hi, ha, ?_⟩
  rcases h.l01 i hi with e | e | e
  ·exact e
  ·exact absurd e (hno i hi ha)
  ·exact absurd e hn
theorem refG_eq {A : List (List Int)} (hr : rightB A = true) {f : Nat} (hf : 3 * A.length + 2 ≤ f) : (roundsR (graphF A) A.length f 1 (zerosI A.length, zerosI A.length, 0)).1 = (groundF A).1 ∧ (roundsR (graphF A) A.length f 1 (zerosI A.length, zerosI A.length, 0)).2.1 = (groundF A).2 := by
 have hm : msR (zerosI A.length, zerosI A.length, 0) ≤ f := by
  unfold msR zerosI
  simp
  omega
 obtain ⟨r', h, hs⟩ := rounds_end hr f 1 _ hm RInv.start
 obtain ⟨c, e⟩ := h.cert hs
 have c' := ground_cert hr
 have e' := ground_exact hr
 have gl := ground_len (A := A)
 have ext : ∀ {L M : List Int}, L.length = A.length → M.length = A.length → (∀ j, dom A.length j → getI L j = getI M j) → L = M := fun {L M} h1 h2 h3 => by
  refine List.ext_getElem (by omega) fun i hi hi2 => ?_
  have := h3 (i : Int) ⟨by omega, by show ((i : Nat) : Int).toNat < _; omega⟩
  rw [getI_nat hi, getI_nat hi2] at this
  exact this
 exact ⟨ext h.l1 gl.1 fun j hj => Cert.unique c c' hj, ext h.l2 gl.2 fun j hj => Exact.uniq c c' e e' hj⟩
end Go.Proofs.Ytbadgapficfbpaa.Bm
namespace Go.Proofs.Ytbadgapficfbpaa.Bm
open Go Go.RowKit
structure Enc (α : Type) where
 e : α → Value
 one : ∀ a, one (e a) = true
 set : ∀ a n, settled (n + 1) (e a) = true
 bel : ∀ a d n, below (d + 1) n (e a) = true
 fits : ∀ a sz, fitsTT ⟨some false, sz⟩ (e a) = true
namespace Enc
variable {α : Type} {O : Enc α} {h : Heap} {l m : List α} {P : Program}
def vals (O : Enc α) (l : List α) : List Value := l.map O.e
def o (O : Enc α) (k : Option Bool) (l : List α) : Value := match k with | none => .slice none 0 0 | some b => lst b (O.vals l)
def Ok (k : Option Bool) (l : List α) : Prop := k = none → l = []
theorem ok_some {b : Bool} : Ok (some b) l := fun h => by cases h
def row (O : Enc α) (t : TypeId) (l : List α) : AObj := .cells t (O.vals l) 1
def part (b n : Nat) (l : List α) : Value := .slice (some ⟨b, 0, some l.length⟩) n l.length
def sl (b : Nat) (l : List α) : Value := .slice (some ⟨b, 0, some l.length⟩) l.length l.length
def at_ (b : Nat) (l : List α) (i : Nat) : Value := .pointer (some ⟨b, i, some l.length⟩)
theorem vals_len : (O.vals l).length = l.length := List.length_map _
theorem vals_app : O.vals (l ++ m) = O.vals l ++ O.vals m := List.map_append
theorem e_cells (a : α) : cellsL (O.e a) = [O.e a] := by
 have := O.one a
 unfold cellsL
 split
 ·rename_i h; rw [h] at this; cases this
 ·rfl
theorem e_cellsOf (a : α) : cellsOf (O.e a) = some [O.e a] := by
 have := O.one a
 unfold cellsOf
 split
 ·rename_i h; rw [h] at this; cases this
 ·rename_i h; rw [h] at this; cases this
 ·rename_i h; rw [h] at this; cases this
 ·rfl
theorem vals_all (l : List α) : (O.vals l).all (fun v => (cellsL v).length == 1) = true := by
 rw [List.all_eq_true]
 intro v hv
 obtain ⟨a, _, rfl⟩ := List.mem_map.1 hv
 rw [e_cells]; rfl
theorem vals_set (l : List α) : (O.vals l).all (settled 8) = true := by
 rw [List.all_eq_true]
 intro v hv
 obtain ⟨a, _, rfl⟩ := List.mem_map.1 hv
 exact O.set a 7
theorem vals_flat : ∀ l : List α, (O.vals l).flatMap cellsL = O.vals l
 | [] => rfl
 | a :: l => by
  show cellsL (O.e a) ++ (O.vals l).flatMap cellsL = O.e a :: O.vals l
  rw [e_cells, vals_flat l]; rfl
theorem vals_get {i : Nat} (hi : i < l.length) : (O.vals l)[i]? = some (O.e l[i]) := by
 unfold vals; rw [List.getElem?_map, List.getElem?_eq_getElem hi]; rfl
theorem vals_take (n : Nat) : (O.vals l).take n = O.vals (l.take n) := by unfold vals; rw [List.map_take]
theorem vals_put {i : Nat} {a : α} : (O.vals l).set i (O.e a) = O.vals (l.set i a) := by unfold vals; rw [List.map_set]
theorem index_tree {x : Bool} {t : TypeId} {i : Nat} {k : IntKind} (hi : i < l.length) : indexAddrT (.sl t ⟨some false, some 1⟩) (lst x (O.vals l)) (.int k (i : Int)) = some (cptr (O.e l[i])) := by
 rw [index_lst, if_pos (by omega), Int.toNat_natCast, vals_get hi, Option.bind_some, O.fits, e_cells]; rfl
theorem index_o {x : Option Bool} {t : TypeId} {i : Nat} {k : IntKind} (hx : Ok x l) (hi : i < l.length) : indexAddrT (.sl t ⟨some false, some 1⟩) (O.o x l) (.int k (i : Int)) = some (cptr (O.e l[i])) := by
 cases x with
 | none => rw [hx rfl] at hi; exact absurd hi (Nat.not_lt_zero i)
 | some b => exact index_tree hi
theorem sl_len {b : Nat} : lenT .sl h (sl b l) = some (.int .i64 l.length) := rfl
theorem part_index {b n i : Nat} {t : TypeId} {g : Option Bool} {k : IntKind} (hi : i < n) : indexAddrT (.sl t ⟨g, some 1⟩) (part b n l) (.int k (i : Int)) = some (at_ b l i) := by
 unfold part
 rw [index_slice, if_pos ⟨by omega, by omega⟩]
 show some (Value.pointer (some ⟨b, 0 + (i : Int).toNat * 1, some l.length⟩)) = _
 rw [Int.toNat_natCast, Nat.mul_one, Nat.zero_add]; rfl
theorem sl_index {b i : Nat} {t : TypeId} {g : Option Bool} {k : IntKind} (hi : i < l.length) : indexAddrT (.sl t ⟨g, some 1⟩) (sl b l) (.int k (i : Int)) = some (at_ b l i) := part_index hi
theorem row_of {b n : Nat} {t : TypeId} (hob : h[b]? = some (O.row t l)) (hn : n = l.length) {off : Nat} : rowOf h ⟨b, off, some n⟩ = some (O.vals l) := by
 subst hn
 unfold rowOf
 show (match h[b]? with | some (.cells _ c g) => _ | _ => none) = _
 rw [hob]
 show (if stampOk _ 1 (O.vals l).length = true then some (O.vals l) else none) = _
 rw [if_pos (by unfold stampOk; rw [vals_len]; simp)]
theorem fits_row {b n : Nat} {t : TypeId} (hob : h[b]? = some (O.row t l)) (hn : n = l.length) {off : Nat} : fitsRow h ⟨b, off, some n⟩ 1 = true := by
 subst hn
 unfold fitsRow
 show (match h[b]? with | some (.cells _ c g) => _ | _ => false) = true
 rw [hob]
 show (stampOk _ 1 (O.vals l).length && _) = true
 unfold stampOk; rw [vals_len]; simp
theorem load_at {b i : Nat} {t : TypeId} {sz : Option Nat} (hob : h[b]? = some (O.row t l)) (hi : i < l.length) : loadT ⟨some false, sz⟩ h (at_ b l i) = some (O.e l[i]) := by
 unfold at_
 rw [load_one, row_of hob rfl, Option.bind_some]
 exact vals_get hi
theorem store_at {b i lo : Nat} {t : TypeId} {a : α} (hob : h[b]? = some (O.row t l)) (hlo : lo ≤ b) (hi : i < l.length) : storeT (some 1) h lo (O.e a) (at_ b l i) = some (h.set b (O.row t (l.set i a))) := by
 unfold at_
 rw [store_ptr, e_cellsOf, Option.bind_some, if_pos (show 1 = [O.e a].length from rfl)]
 have hob' : h[b]? = some (.cells t (O.vals l) 1) := hob
 unfold wrN
 show (match h[b]? with | some (.cells t c g) => _ | _ => none) = _
 rw [hob']
 show (if _ then _ else none) = _
 rw [if_pos ⟨hlo, by unfold stampOk; rw [vals_len]; simp, by simp, by rw [vals_len]; simp; omega⟩]
 show some (h.set b (.cells t (splice (O.vals l) i [O.e a]) 1)) = _
 rw [splice_one (by rw [vals_len]; exact hi), vals_put]; rfl
theorem cells_part {b n : Nat} {t : TypeId} (hob : h[b]? = some (O.row t l)) (hn : n ≤ l.length) : sliceCells h 1 (part b n l) = some (O.vals (l.take n), (l.take n).length) := by
 unfold part
 have e : (l.take n).length = n := by rw [List.length_take]; omega
 rw [cells_slice, e]
 by_cases h0 : n = 0
 ·subst h0; rw [if_pos rfl]; rfl
 ·rw [if_neg h0]
  show rowS _ _ _ h[b]? = _
  rw [hob]
  show rowS _ _ _ (some (.cells t (O.vals l) 1)) = _
  rw [rowS_cells, if_pos ⟨by unfold stampOk; rw [vals_len]; simp, .inr rfl, by rw [vals_len]; simp; omega⟩, List.drop_zero, Nat.mul_one, vals_take]
theorem cells_sl {b : Nat} {t : TypeId} (hob : h[b]? = some (O.row t l)) : sliceCells h 1 (sl b l) = some (O.vals l, l.length) := by
 have := cells_part hob (Nat.le_refl l.length)
 rw [List.take_length] at this
 exact this
theorem reify_part {b n d : Nat} {t : TypeId} (hob : h[b]? = some (O.row t l)) (hn : n ≤ l.length) (hs : szOf P t = some 1) (ha : aggT P t = some false) : reify P (d + 1) h (part b n l) = some (lst false (O.vals (l.take n))) := by
 unfold part
 rw [reify_slice]
 by_cases h0 : n = 0
 ·subst h0; rfl
 ·rw [if_neg h0]
  show reifyS P d h h[b]? _ _ = _
  rw [hob]
  show reifyS P d h (some (.cells t (O.vals l) 1)) _ _ = _
  rw [reifyS_cells, hs, Option.bind_some, if_pos ⟨by unfold stampOk; rw [vals_len]; simp, Nat.one_pos, by rw [vals_len]; simp; omega⟩, List.drop_zero, Nat.mul_one, vals_take,
   reifyC_set (vals_set _), Option.bind_some, elems_one ha hs]; rfl
theorem reify_sl {b d : Nat} {t : TypeId} (hob : h[b]? = some (O.row t l)) (hs : szOf P t = some 1) (ha : aggT P t = some false) : reify P (d + 1) h (sl b l) = some (lst false (O.vals l)) := by
 have := reify_part (P := P) (d := d) hob (Nat.le_refl l.length) hs ha
 rw [List.take_length] at this
 exact this
theorem reifyR_sl {b : Nat} {t : TypeId} (hob : h[b]? = some (O.row t l)) (hs : szOf P t = some 1) (ha : aggT P t = some false) : reifyR P h (sl b l) = some (lst false (O.vals l)) := reify_sl hob hs ha
theorem frz_part {b n lo : Nat} {t : TypeId} (hob : h[b]? = some (O.row t l)) (hn : n ≤ l.length) (hs : szOf P t = some 1) (ha : aggT P t = some false) (hlo : lo ≤ b) :
  freezeV P depth lo h (part b n l) = some (lst false (O.vals (l.take n)), if n = 0 then h else h.set b .dead) := by
 have e : ((O.vals l).drop 0).take (n * 1) = O.vals (l.take n) := by rw [List.drop_zero, Nat.mul_one, vals_take]
 exact frz_row1 (a := ⟨b, 0, some l.length⟩) (t := t) (c := O.vals l) (g := 1) hob hs hlo (by unfold stampOk; rw [vals_len]; simp) Nat.one_pos (by rw [vals_len]; simp; omega) (by rw [e]; exact vals_set _)
  (by rw [e]; exact elems_one ha hs) (by rw [vals_len, List.length_take]; omega)
theorem frz_sl {b lo : Nat} {t : TypeId} (hob : h[b]? = some (O.row t l)) (hs : szOf P t = some 1) (ha : aggT P t = some false) (hlo : lo ≤ b) :
  freezeV P depth lo h (sl b l) = some (lst false (O.vals l), if l.length = 0 then h else h.set b .dead) := by
 have := frz_part (P := P) (lo := lo) hob (Nat.le_refl l.length) hs ha hlo
 rw [List.take_length] at this
 exact this
theorem app {el : El} {lo b : Nat} {t : TypeId} {u : Value} (hel : el.size = 1) (hob : h[b]? = some (O.row t l)) (hu : sliceCells h 1 u = some (O.vals m, m.length)) (hlo : lo ≤ b) (hb : (l.length + m.length) * el.bytes ≤ 2 ^ 47) :
  appendT (some el) h lo false (sl b l) u = some (sl b (l ++ m), h.set b (O.row t (l ++ m))) := by
 have hob' : h[b]? = some (.cells t (O.vals l) 1) := hob
 unfold sl
 rw [append_slice, hel, hu]
 show appS el h lo false _ _ _ h[b]? _ = _
 by_cases hm : m.length = 0
 ·have : m = [] := List.eq_nil_of_length_eq_zero hm
  subst this
  have hf : fitsRow h ⟨b, 0, some l.length⟩ el.size = true := by rw [hel]; exact fits_row hob rfl
  unfold appS
  simp only [List.append_nil, List.length_nil, Nat.add_zero, Nat.le_refl, if_true, hf, Option.bind_some]
  congr 2
  refine (List.ext_getElem? fun i => ?_)
  rw [List.getElem?_set]
  split
  ·rename_i e; subst e
   split
   ·exact hob
   ·rename_i hlt; rw [List.getElem?_eq_none (by omega)]
  ·rfl
 ·rw [hob']
  refine (appS_grown (m := m.length) hm vals_len.symm rfl hel (by rw [vals_len]; omega) hlo hb).trans ?_
  unfold row
  rw [vals_app, List.length_append, vals_len, vals_len, List.length_append]
theorem app_tree {el : El} {lo : Nat} {st : Bool} {u : Value} (hel : el.size = 1) (hu : sliceCells h 1 u = some (O.vals m, m.length)) (hm : m ≠ []) (hb : (l.length + m.length) * el.bytes ≤ 2 ^ 47) :
  appendT (some el) h lo st (lst true (O.vals l)) u = some (sl h.length (l ++ m), h ++ [O.row el.e (l ++ m)]) := by
 have hm0 : m.length ≠ 0 := fun e => hm (List.eq_nil_of_length_eq_zero e)
 rw [append_lst, hel, hu]
 simp only [Option.bind_some]
 rw [if_neg hm0, if_pos ⟨vals_all l, by rw [vals_len]; exact hb⟩, vals_len, vals_flat, ← vals_app, vals_len]
 unfold sl
 rw [List.length_append]
 rfl
end Enc
def intE : Enc Int := ⟨.int .i64, fun _ => rfl, fun _ _ => rfl, fun _ _ _ => rfl, fun _ _ => rfl⟩
end Go.Proofs.Ytbadgapficfbpaa.Bm
namespace Go.Proofs.Ytbadgapficfbpaa.Bm
open Go Go.RowKit
section
variable {P : Program} {t : TypeId}
end
end Go.Proofs.Ytbadgapficfbpaa.Bm
namespace Go.Proofs.Ytbadgapficfbpaa.Bm
open Go Go.RowKit
theorem manyR_call {kL k : Option Bool} {Lb l : List Int} {v : Int} (hL : IOk kL Lb) (hk : IOk k l) (hl : l.length ≤ maxLen) (hin : ∀ i ∈ l, 0 ≤ i ∧ i.toNat < Lb.length) {lo : Nat} {st : Bool} {h : Heap} :
  retCall E (L E) lo st 29 [ilist kL Lb, ilist k l, .int .i64 v] h = some (.int .i64 (manyF Lb l v : Nat), h) := by
 have r1 : ∀ H, reify E.P 8 H (ilist kL Lb) = some (ilist kL Lb) := fun H => il_reify
 have r2 : ∀ H, reify E.P 8 H (ilist k l) = some (ilist k l) := fun H => il_reify
 have := manyR_spec (v := v) hL hk hl hin
 simp -implicitDefEqProofs [ret0 m29, r1, r2, this]
theorem at_eq {α : Type} {b i : Nat} {l m : List α} (h : l.length = m.length) : Enc.at_ b l i = Enc.at_ b m i := by unfold Enc.at_; rw [h]
theorem sl_eq {α : Type} {b : Nat} {l m : List α} (h : l.length = m.length) : Enc.sl b l = Enc.sl b m := by unfold Enc.sl; rw [h]
def gdH (X : AObj) (rk : List Int) : Heap := [X, rowC rk]
def gdN (X : AObj) (rk nx : List Int) : Heap := [X, rowC rk, rowG nx]
abbrev elJ : El := ⟨3, 1, 8, .int .i64 0, ⟨some false, some 1⟩⟩
section
variable {X : AObj} {rk nx : List Int}
theorem gd_app {k : Option Bool} {Lb : List Int} (hk : IOk k Lb) (h0 : Lb ≠ []) (hl : Lb.length ≤ 1000) {st : Bool} : appendT (some elJ) (gdH X rk) 0 st (lst true []) (ilist k Lb) = some (Enc.sl 2 Lb, gdN X rk Lb) :=
 Enc.app_tree (O := intE) (el := elJ) (l := []) (m := Lb) rfl (by
  have := il_cells (h := gdH X rk) (s := 1) rfl hk
  exact this) h0 (by show (0 + Lb.length) * 8 ≤ _; omega)
theorem gd_store {n : Nat} (hn : nx.length = n) {M : List Int} (hM : M.length = n) {i : Nat} (hi : i < n) {v : Int} : storeT (some 1) (gdN X rk nx) 0 (.int .i64 v) (Enc.at_ 2 M i) = some (gdN X rk (nx.set i v)) := by
 rw [at_eq (m := nx) (by omega)]
 exact Enc.store_at (O := intE) (t := 3) (h := gdN X rk nx) rfl (Nat.zero_le _) (by omega)
theorem gd_rank {n : Nat} (hn : rk.length = n) {i : Nat} (hi : i < n) {v : Int} : storeT (some 1) (gdN X rk nx) 0 (.int .i64 v) (cAt 1 i) = some (gdN X (rk.set i v) nx) := by
 have := obj_store (h := gdN X rk nx) (b := 1) (j := i) (lo := 0) (t := 3) (c := rk.map (.int .i64)) (v := .int .i64 v) rfl (by rw [List.length_map]; omega) (Nat.zero_le _) rfl
 rw [this]
 unfold gdN rowC
 rw [List.map_set]; rfl
theorem gd_frz {M : List Int} (hM : M.length = nx.length) (h0 : nx ≠ []) : freezeV E.P depth 0 (gdN X rk nx) (Enc.sl 2 M) = some (rowT nx, gdH X rk ++ [.dead]) := by
 have := Enc.frz_sl (O := intE) (P := E.P) (h := gdN X rk nx) (b := 2) (lo := 0) (t := 3) (l := nx) rfl s3 a3 (Nat.zero_le _)
 rw [if_neg fun e => h0 (List.eq_nil_of_length_eq_zero e)] at this
 rw [sl_eq (m := nx) hM]
 exact this
theorem gd_ix {M : List Int} {i : Nat} (hi : i < M.length) {t : TypeId} {g : Option Bool} {k : IntKind} : indexAddrT (.sl t ⟨g, some 1⟩) (Enc.sl 2 M) (.int k (i : Int)) = some (Enc.at_ 2 M i) := Enc.sl_index hi
theorem made_ix {b n i : Nat} (hi : i < n) {t : TypeId} {g : Option Bool} {k : IntKind} : indexAddrT (.sl t ⟨g, some 1⟩) (.slice (some ⟨b, 0, none⟩) n n) (.int k (i : Int)) = some (cAt b i) := by
 rw [index_slice, if_pos ⟨by omega, by omega⟩]
 show some (Value.pointer (some ⟨b, 0 + (i : Int).toNat * 1, none⟩)) = _
 rw [Int.toNat_natCast, Nat.mul_one, Nat.zero_add]; rfl
end
theorem round_cons {G : List (List Int)} {Lb : List Int} {r : Int} {i m : Nat} {c : List Int × List Int × Nat} : (List.range' i (m + 1)).foldl (roundI G Lb r) c = (List.range' (i + 1) m).foldl (roundI G Lb r) (roundI G Lb r c i) := rfl
set_option maxRecDepth 20000 in
set_option maxHeartbeats 4000000 in
theorem groundedR_go (x : Bool) (l : List Claim) (hc : CaseOk l) (hl : l.length ≤ maxLen) (hr : rightB (atts l) = true) (h0 : l ≠ []) : pureCall E.P (L E) 11 [lst x (l.map Claim.val)] =
  some (.tuple #[rowT (groundF (atts l)).1, rowT (groundF (atts l)).2, .int .i64 0]) := by
 have rs := rightR_spec x l hc hl
 rw [hr] at rs
 have ats := attackersR_spec x l hc hr
 obtain ⟨hn300, hat⟩ := right_at hr
 rw [atts_len] at hn300 hat
 have hGl := graphF_len (atts l)
 have hGi := graphF_in (atts l)
 have hGb := graphF_bound hr
 rw [atts_len] at hGl hGi
 have ll : ∀ h, lenT .sl h (lst x (l.map Claim.val)) = some (.int .i64 l.length) := fun h => by simp
 have rV : ∀ H, reify E.P 8 H (lst x (l.map Claim.val)) = some (lst x (l.map Claim.val)) := fun H => rfl
 have sV : settled depth (lst x (l.map Claim.val)) = true := rfl
 have hn0 : 0 < l.length := List.length_pos_iff.2 h0
 have eqG := refG_eq hr (f := 3 * l.length + 2) (by rw [atts_len]; exact Nat.le_refl _)
 rw [atts_len] at eqG
 have iB := fun (i : Nat) (hi : i < (graphF (atts l)).length) => graphT_idx (G := graphF (atts l)) (e := 23) (z := (i : Int)) (by omega) (by simpa using hi)
 obtain ⟨G, hG⟩ : ∃ G, G = graphF (atts l) := ⟨_, rfl⟩
 rw [← hG] at ats hGl hGi hGb eqG iB
 have mkA := make_one (h := []) (el := elJ) (n := l.length) (k := .i64) (k' := .i64) rfl rfl (by omega) (by decide)
 have mkB := make_one (h := [rowC (zerosI l.length)]) (el := elJ) (n := l.length) (k := .i64) (k' := .i64) rfl rfl (by omega) (by decide)
 have ez : List.replicate l.length (Value.int .i64 0) = (zerosI l.length).map (.int .i64) := by unfold zerosI; rw [List.map_replicate]
 rw [show elJ.z = Value.int .i64 0 from rfl, ez] at mkA mkB
 have mkA : makeSliceT (some elJ) [] (.int .i64 (l.length : Int)) (.int .i64 (l.length : Int)) = some (.slice (some ⟨0, 0, none⟩) l.length l.length, [rowC (zerosI l.length)]) := mkA
 have mkB : makeSliceT (some elJ) [rowC (zerosI l.length)] (.int .i64 (l.length : Int)) (.int .i64 (l.length : Int)) = some (.slice (some ⟨1, 0, none⟩) l.length l.length, [rowC (zerosI l.length), rowC (zerosI l.length)]) := mkB
 have fz0 : freezeV E.P depth 0 [rowC (zerosI l.length), rowC (zerosI l.length)] (.slice (some ⟨0, 0, none⟩) l.length l.length) = some (rowT (zerosI l.length), gdH .dead (zerosI l.length)) := by
  have := frz_row1 (P := E.P) (n := 7) (lo := 0) (h := [rowC (zerosI l.length), rowC (zerosI l.length)]) (a := ⟨0, 0, none⟩) (t := 3) (c := (zerosI l.length).map (.int .i64)) (l := (zerosI l.length).map (.int .i64)) (g := 0) (s := 1) (len := l.length) (cap := l.length) rfl s3 (Nat.zero_le _) rfl Nat.one_pos (by unfold zerosI; simp) (by rw [List.drop_zero, List.take_of_length_le (by unfold zerosI; simp)]; simp [List.all_eq_true]) (by
   rw [List.drop_zero, Nat.mul_one, List.take_of_length_le (by unfold zerosI; simp)]
   exact elems_one a3 s3) (by unfold zerosI; simp)
  rw [if_neg (by omega)] at this
  exact this
 have lz : (zerosI l.length).length = l.length := by unfold zerosI; simp
 have bV : ∀ d n, below (d + 1) n (lst x (l.map Claim.val)) = true := fun _ _ => rfl
 have bB : ∀ d n, below (d + 1) n (lst false (G.map rowT)) = true := fun _ _ => rfl
 have rB : ∀ H, reify E.P 8 H (lst false (G.map rowT)) = some (lst false (G.map rowT)) := fun H => rfl
 have lB : ∀ i : Nat, i < l.length → getL G (i : Int) ∈ G := fun i hi => by
  have hi' : i < G.length := by omega
  unfold getL
  rw [Int.toNat_natCast, List.getD_eq_getElem?_getD, List.getElem?_eq_getElem hi']
  exact List.getElem_mem hi'
 rw [pureCall_fn F11 rfl]
 generalize hVL : lst x (l.map Claim.val) = VL at *
 generalize hVB : lst false (G.map rowT) = VB at *
 simp -implicitDefEqProofs [r11, p11, ret0 m14, rV, rs, ret1 m28, sV, ats, ll, mkA, mkB, prep_frz, fz0]
 rw [LL_rec (α := Nat × Int × (List Int × List Int × Nat)) (3 * l.length + 2, 1, (zerosI l.length, zerosI l.length, 0)) (fun a => [(6, rowT a.2.2.1), (8, .int .i64 (a.2.2.2.2 : Int)), (9, .int .i64 a.2.1)]) (fun a => gdH .dead a.2.2.2.1)
  (fun a => (.exit 0, [(6, rowT (roundsR G l.length a.1 a.2.1 a.2.2).1), (8, undef), (9, undef)], gdH .dead (roundsR G l.length a.1 a.2.1 a.2.2).2.1))
  (fun a => a.2.2.1.length = l.length ∧ a.2.2.2.1.length = l.length ∧ 1 ≤ a.2.1 ∧ a.2.1 + (a.1 : Int) ≤ 100000 ∧ msR a.2.2 ≤ a.1) (fun a => a.1)]
 ·dsimp only
  rw [eqG.1, eqG.2]
  have gl := ground_len (A := atts l)
  rw [atts_len] at gl
  have rR := reify_row (L := (groundF (atts l)).2) (h := gdH .dead (groundF (atts l)).2) (b := 1) gl.2 rfl
  have rL : ∀ H, reify E.P 8 H (rowT (groundF (atts l)).1) = some (rowT (groundF (atts l)).1) := fun H => rfl
  generalize rowT (groundF (atts l)).1 = V1 at *
  generalize rowT (groundF (atts l)).2 = V2 at *
  simp -implicitDefEqProofs [k11_8, reifyAll_cons, reifyAll_nil, rL, rR]
 ·refine ⟨lz, lz, Int.le_refl _, by show 1 + ((3 * l.length + 2 : Nat) : Int) ≤ 100000; omega, ?_⟩
  show msR (zerosI l.length, zerosI l.length, 0) ≤ 3 * l.length + 2
  unfold msR zerosI
  simp
 ·simp -implicitDefEqProofs [k11_8]
 ·rfl
 ·intro nx a ha ih
  obtain ⟨fu, r, Lb, rk, st⟩ := a
  obtain ⟨hL, hR, hr1, hr2, hms⟩ := ha
  simp only at hL hR hr1 hr2 hms ih ⊢
  by_cases hst : st < 2
  case neg =>
   have e : roundsR G l.length fu r (Lb, rk, st) = (Lb, rk, st) := by
    cases fu with
    | zero => rfl
    | succ f => show (if st < 2 then _ else _) = _; rw [if_neg hst]
   rw [e]
   have g0 : ¬ ((st : Int) < 2) := by omega
   simp -implicitDefEqProofs [r11_8, k11_8, g0, gdH, trim_le]
  obtain ⟨f, rfl⟩ : ∃ f, fu = f + 1 := ⟨fu - 1, by unfold msR at hms; simp only at hms; omega⟩
  have e : roundsR G l.length (f + 1) r (Lb, rk, st) = roundsR G l.length f (r + 1) (stepR G l.length r (Lb, rk, st)) := by
   show (if st < 2 then _ else _) = _
   rw [if_pos hst]
  rw [e]
  have hsl := round_len (G := G) (L := Lb) (r := r) (List.range l.length) (Lb, rk, st + 1)
  have hmr := msR_step (G := G) (n := l.length) (r := r) (s := (Lb, rk, st)) hL hst
  have hsl1 : (stepR G l.length r (Lb, rk, st)).1.length = l.length := hsl.1.trans hL
  have hsl2 : (stepR G l.length r (Lb, rk, st)).2.1.length = l.length := hsl.2.trans hR
  have ih := ih (f, r + 1, stepR G l.length r (Lb, rk, st)) (Nat.lt_succ_self f) ⟨hsl1, hsl2, by show 1 ≤ r + 1; omega, by
   have : ((f + 1 : Nat) : Int) = (f : Int) + 1 := by omega
   show r + 1 + (f : Int) ≤ 100000
   omega, by show msR (stepR G l.length r (Lb, rk, st)) ≤ f; omega⟩
  simp only at ih
  have hLne : Lb ≠ [] := fun e => by rw [e] at hL; simp at hL; omega
  have g0 : (st : Int) < 2 := by omega
  have w1 : IntKind.i64.wrap ((st : Int) + 1) = ((st + 1 : Nat) : Int) := (wrap64 (by omega) (by omega)).trans (by omega)
  have wr : IntKind.i64.wrap (r + 1) = r + 1 := wrap64 (by omega) (by omega)
  have ap := fun st => gd_app (X := .dead) (rk := rk) (k := some false) (Lb := Lb) iok_some hLne (by omega) (st := st)
  have estep : stepR G l.length r (Lb, rk, st) = (List.range' 0 l.length).foldl (roundI G Lb r) (Lb, rk, st + 1) := by unfold stepR; rw [List.range_eq_range']
  obtain ⟨S', hS'⟩ : ∃ S', S' = stepR G l.length r (Lb, rk, st) := ⟨_, rfl⟩
  rw [← hS'] at estep hsl1 hsl2 ih ⊢
  have hS1ne : S'.1 ≠ [] := fun e => by rw [e] at hsl1; simp at hsl1; omega
  have frz := gd_frz (X := .dead) (rk := S'.2.1) (nx := S'.1) (M := Lb) (by omega) hS1ne
  have bL : ∀ d n, below (d + 1) n (rowT S'.1) = true := fun _ _ => rfl
  generalize roundsR G l.length f (r + 1) S' = RR at *
  have hap : ilist (some false) Lb = rowT Lb := rfl
  rw [hap] at ap
  simp -implicitDefEqProofs [k11_8] at ih
  have lit0 : ∀ H, buildSliceT (some elJ) false H 0 #[] = some (lst true [], H) := fun _ => rfl
  have gl2 : (gdH .dead rk).length = 2 := rfl
  simp -implicitDefEqProofs [r11_8, k11_8, g0, w1, lit0, ap, gl2]
  rw [LL_for (γ := List Int × List Int × Nat) l (Lb, rk, st + 1) (fun i c => [(8, .int .i64 (c.2.2 : Int)), (11, .int .i64 (i : Int))]) (fun _ c => gdN .dead c.2.1 c.1)
   (fun i rest c => (.exit 2, [(8, .int .i64 (((List.range' i rest.length).foldl (roundI G Lb r) c).2.2 : Int)), (11, undef)], gdN .dead ((List.range' i rest.length).foldl (roundI G Lb r) c).2.1 ((List.range' i rest.length).foldl (roundI G Lb r) c).1))
   (fun _ c => c.1.length = l.length ∧ c.2.1.length = l.length) (by omega) ⟨hL, hR⟩]
  ·rw [← estep]
   have gN3 : (gdN .dead S'.2.1 S'.1).length = 3 := rfl
   have gD : ∀ vs, vs.all (below 8 2) = true → trim 2 vs (gdH .dead S'.2.1 ++ [AObj.dead]) = gdH .dead S'.2.1 := fun vs h => by
    have e : (gdH .dead S'.2.1 ++ [AObj.dead]).take 2 = gdH .dead S'.2.1 := rfl
    have := trim_cut (h := gdH .dead S'.2.1 ++ [AObj.dead]) (n := 2) (vs := vs) (by show ¬ 3 ≤ 2; decide) h (by
     rw [e]
     have := rowC_bel (n := 2) (L := S'.2.1)
     unfold gdH
     simp only [List.all_cons, List.all_nil, this]
     rfl)
    rw [this, e]
   generalize gdH .dead S'.2.1 ++ [AObj.dead] = HF at *
   simp -implicitDefEqProofs [k11_13, gN3, prep_frz, frz, wr, gD, bV, bB, bL, ih, -List.all_eq_true, -List.all_map]
  ·simp -implicitDefEqProofs [k11_13]
  ·rfl
  ·intro nx2 i c hi _
   have gN3 : (gdN .dead c.2.1 c.1).length = 3 := rfl
   simp -implicitDefEqProofs [r11_13, k11_13, ll, hi, gN3, trim_le]
  ·intro nx2 i v rest c hi hv hd hw hI ih2
   obtain ⟨nxt, rks, st2⟩ := c
   obtain ⟨hI1, hI2⟩ := hI
   simp only at hI1 hI2 ih2 ⊢
   have hi2 : (i : Int) < (l.length : Int) := by omega
   have gm := lB i hi
   have iB := iB i (by omega)
   have hgi := hGi _ gm
   have hgb := hGb _ gm
   have iL := rowT_idxN (e := 3) (l := Lb) (i := i) (by omega)
   have eL : Lb[i] = getI Lb (i : Int) := (getI_nat (by omega)).symm
   rw [eL] at iL
   have hcnd : cndR G Lb r (i : Int) = (decide (getI Lb (i : Int) = 0) && (inW G Lb r (i : Int) || outW G Lb r (i : Int))) := rfl
   have hin : inW G Lb r (i : Int) = (decide (r.tmod 2 = 1) && decide (manyF Lb (getL G (i : Int)) 2 = (getL G (i : Int)).length)) := rfl
   have hout : outW G Lb r (i : Int) = (decide (r.tmod 2 = 0) && decide (0 < manyF Lb (getL G (i : Int)) 1)) := rfl
   have hval : valR G Lb r (i : Int) = if inW G Lb r (i : Int) = true then 1 else 2 := rfl
   have hrnd : roundI G Lb r (nxt, rks, st2) i = if cndR G Lb r (i : Int) = true then (nxt.set i (valR G Lb r (i : Int)), rks.set i r, 0) else (nxt, rks, st2) := rfl
   generalize getL G (i : Int) = g at *
   have m2 := fun lo st h => manyR_call (kL := some false) (Lb := Lb) (k := some false) (l := g) (v := 2) iok_some iok_some (by unfold maxLen; omega) (fun k hk => by rw [hL]; exact hgi k hk) (lo := lo) (st := st) (h := h)
   have m1 := fun lo st h => manyR_call (kL := some false) (Lb := Lb) (k := some false) (l := g) (v := 1) iok_some iok_some (by unfold maxLen; omega) (fun k hk => by rw [hL]; exact hgi k hk) (lo := lo) (st := st) (h := h)
   have hap2 : ilist (some false) g = rowT g := rfl
   rw [hap, hap2] at m2 m1
   have lg : ∀ H, lenT .sl H (rowT g) = some (.int .i64 g.length) := fun H => il_len (k := some false) (l := g) iok_some
   have ldg : ∀ H, loadT ⟨some false, some 1⟩ H (cptr (rowT g)) = some (rowT g) := fun H => by rw [load_cptr]; exact if_pos (il_fits (k := some false) (l := g))
   have i10 := gd_ix (M := Lb) (i := i) (by omega) (t := 3) (g := some false) (k := .i64)
   have i7 := made_ix (b := 1) (n := l.length) hi (t := 3) (g := some false) (k := .i64)
   have s10 := gd_store (X := .dead) (rk := rks) (nx := nxt) hI1 hL hi (v := 2)
   have s10b := gd_store (X := .dead) (rk := rks) (nx := nxt.set i 2) (by rw [List.length_set]; exact hI1) hL hi (v := 1)
   rw [List.set_set] at s10b
   have s7a := gd_rank (X := .dead) (rk := rks) (nx := nxt.set i 2) hI2 hi (v := r)
   have s7b := gd_rank (X := .dead) (rk := rks) (nx := nxt.set i 1) hI2 hi (v := r)
   have e2 : (((i + 1 : Nat) : Int)) = (i : Int) + 1 := by omega
   rw [List.length_cons, round_cons, hrnd]
   have ihc := ih2 (nxt, rks, st2) ⟨hI1, hI2⟩
   have ihs := fun v => ih2 (nxt.set i v, rks.set i r, 0) ⟨by show (nxt.set i v).length = _; rw [List.length_set]; exact hI1, by show (rks.set i r).length = _; rw [List.length_set]; exact hI2⟩
   simp only at ihc ihs
   rw [e2] at ihc
   simp only [e2] at ihs
   have gN3 : ∀ a b, (gdN .dead a b).length = 3 := fun _ _ => rfl
   have fg : fitsTT ⟨some false, some 1⟩ (rowT g) = true := il_fits (k := some false) (l := g)
   generalize rowT g = VG at *
   generalize rowT Lb = VLb at *
   generalize Enc.at_ 2 Lb i = P10 at *
   generalize Enc.sl 2 Lb = V10 at *
   generalize cAt 1 i = P7 at *
   have brem : aBin E.P .rem 3 (.int .i64 r) (.int .i64 2) = some (.int .i64 (r.tmod 2)) := by
    show (if (2 : Int) = 0 then none else some (Value.int .i64 (r.tmod 2))) = _
    rw [if_neg (by decide)]
   by_cases p1 : r.tmod 2 = 1
   ·have p0 : ¬ r.tmod 2 = 0 := by omega
    have hout' : outW G Lb r (i : Int) = false := by rw [hout, decide_eq_false p0, Bool.false_and]
    by_cases z : getI Lb (i : Int) = 0
    ·rw [z] at iL
     by_cases q : manyF Lb g 2 = g.length
     ·have hin' : inW G Lb r (i : Int) = true := by rw [hin, decide_eq_true p1, decide_eq_true q]; rfl
      have hc : cndR G Lb r (i : Int) = true := by rw [hcnd, decide_eq_true z, hin']; rfl
      rw [hc, if_pos rfl, hval, hin', if_pos rfl]
      have ihs := ihs 1
      have q' : ((manyF Lb g 2 : Nat) : Int) = (g.length : Int) := by omega
      generalize (List.range' (i + 1) rest.length).foldl (roundI G Lb r) (nxt.set i 1, rks.set i r, 0) = RS at *
      simp -implicitDefEqProofs [k11_13] at ihs
      simp -implicitDefEqProofs [r11_13, k11_13, ll, hi2, brem, p1, p0, iB, ldg, fg, m2, lg, q', iL, i10, i7, s10, s10b, s7b, gN3, hw, ihs, trim_le]
     ·have hin' : inW G Lb r (i : Int) = false := by rw [hin, decide_eq_false q, Bool.and_false]
      have hc : cndR G Lb r (i : Int) = false := by rw [hcnd, hin', hout', Bool.or_false, Bool.and_false]
      rw [hc, if_neg (by decide)]
      have q' : ¬ ((manyF Lb g 2 : Nat) : Int) = (g.length : Int) := by omega
      generalize (List.range' (i + 1) rest.length).foldl (roundI G Lb r) (nxt, rks, st2) = RS at *
      simp -implicitDefEqProofs [k11_13] at ihc
      simp -implicitDefEqProofs [r11_13, k11_13, ll, hi2, brem, p1, p0, iB, ldg, fg, m2, lg, q', iL, i10, i7, gN3, hw, ihc, trim_le]
    ·have hc : cndR G Lb r (i : Int) = false := by rw [hcnd, decide_eq_false z, Bool.false_and]
     rw [hc, if_neg (by decide)]
     generalize (List.range' (i + 1) rest.length).foldl (roundI G Lb r) (nxt, rks, st2) = RS at *
     simp -implicitDefEqProofs [k11_13] at ihc
     by_cases q : ((manyF Lb g 2 : Nat) : Int) = (g.length : Int)
     ·simp -implicitDefEqProofs [r11_13, k11_13, ll, hi2, brem, p1, p0, iB, ldg, fg, m2, lg, q, iL, z, gN3, hw, ihc, trim_le]
     ·simp -implicitDefEqProofs [r11_13, k11_13, ll, hi2, brem, p1, p0, iB, ldg, fg, m2, lg, q, iL, z, gN3, hw, ihc, trim_le]
   ·have p0 : r.tmod 2 = 0 := by
     have := Int.tmod_eq_emod_of_nonneg (a := r) (b := 2) (by omega)
     omega
    have hin' : inW G Lb r (i : Int) = false := by rw [hin, decide_eq_false p1, Bool.false_and]
    by_cases z : getI Lb (i : Int) = 0
    ·rw [z] at iL
     by_cases q : 0 < manyF Lb g 1
     ·have hout' : outW G Lb r (i : Int) = true := by rw [hout, decide_eq_true p0, decide_eq_true q]; rfl
      have hc : cndR G Lb r (i : Int) = true := by rw [hcnd, decide_eq_true z, hin', hout']; rfl
      rw [hc, if_pos rfl, hval, hin', if_neg (by decide)]
      have ihs := ihs 2
      generalize (List.range' (i + 1) rest.length).foldl (roundI G Lb r) (nxt.set i 2, rks.set i r, 0) = RS at *
      simp -implicitDefEqProofs [k11_13] at ihs
      simp -implicitDefEqProofs [r11_13, k11_13, ll, hi2, brem, p1, p0, iB, ldg, fg, m1, lg, q, iL, i10, i7, s10, s7a, gN3, hw, ihs, trim_le]
     ·have hout' : outW G Lb r (i : Int) = false := by rw [hout, decide_eq_false q, Bool.and_false]
      have hc : cndR G Lb r (i : Int) = false := by rw [hcnd, hin', hout', Bool.or_false, Bool.and_false]
      rw [hc, if_neg (by decide)]
      generalize (List.range' (i + 1) rest.length).foldl (roundI G Lb r) (nxt, rks, st2) = RS at *
      simp -implicitDefEqProofs [k11_13] at ihc
      simp -implicitDefEqProofs [r11_13, k11_13, ll, hi2, brem, p1, p0, iB, ldg, fg, m1, lg, q, iL, gN3, hw, ihc, trim_le]
    ·have hc : cndR G Lb r (i : Int) = false := by rw [hcnd, decide_eq_false z, Bool.false_and]
     rw [hc, if_neg (by decide)]
     generalize (List.range' (i + 1) rest.length).foldl (roundI G Lb r) (nxt, rks, st2) = RS at *
     simp -implicitDefEqProofs [k11_13] at ihc
     by_cases q : 0 < manyF Lb g 1
     ·simp -implicitDefEqProofs [r11_13, k11_13, ll, hi2, brem, p1, p0, iB, ldg, fg, m1, lg, q, iL, z, gN3, hw, ihc, trim_le]
     ·simp -implicitDefEqProofs [r11_13, k11_13, ll, hi2, brem, p1, p0, iB, ldg, fg, m1, lg, q, iL, z, gN3, hw, ihc, trim_le]
set_option maxRecDepth 100000 in
theorem groundedR_nil (x : Bool) : pureCall E.P (L E) 11 [lst x []] = some (.tuple #[lst true [], lst false [], .int .i64 0]) := by
 cases x
 ·exact pureCall_le (evF_L 20) (by kernel_rfl)
 ·exact pureCall_le (evF_L 20) (by kernel_rfl)
theorem groundedR_no (x : Bool) (l : List Claim) (hc : CaseOk l) (hl : l.length ≤ maxLen) (hr : rightB (atts l) = false) : pureCall E.P (L E) 11 [lst x (l.map Claim.val)] = some (.tuple #[.slice none 0 0, .slice none 0 0, .int .i64 1]) := by
 have rs := rightR_spec x l hc hl
 rw [hr] at rs
 have rV : ∀ H, reify E.P 8 H (lst x (l.map Claim.val)) = some (lst x (l.map Claim.val)) := fun H => rfl
 rw [pureCall_fn F11 rfl]
 generalize lst x (l.map Claim.val) = VL at *
 simp -implicitDefEqProofs [r11, p11, ret0 m14, rV, rs]
theorem groundedR_spec (x : Bool) (l : List Claim) (hc : CaseOk l) (hl : l.length ≤ maxLen) (hr : rightB (atts l) = true) : ∃ k, pureCall E.P (L E) 11 [lst x (l.map Claim.val)] =
  some (.tuple #[ilist (some k) (groundF (atts l)).1, rowT (groundF (atts l)).2, .int .i64 0]) := by
 by_cases h0 : l = []
 ·subst h0
  exact ⟨true, groundedR_nil x⟩
 ·exact ⟨false, groundedR_go x l hc hl hr h0⟩
end Go.Proofs.Ytbadgapficfbpaa.Bm
