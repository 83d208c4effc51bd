/-
  Chapter 36: what is few, what attacks, complete labellings, and sets that beat. Conditions: lists that are not too long.
-/
import Derived.Test.YtbadgapficfbpaaC36a
namespace Go.Proofs.Ytbadgapficfbpaa.Bm
open Go Go.RowKit

theorem atts_cons (c : Claim) (l : List Claim) : atts (c :: l) = c.att :: atts l := rfl
theorem atts_len (l : List Claim) : (atts l).length = l.length := by simp [atts]
theorem getL_at {l : List Claim} {z : Int} (h1 : z.toNat < l.length) : getL (atts l) z = l[z.toNat].att := by simp [getL, atts, h1]
theorem getL_nat {l : List Claim} {i : Nat} (h1 : i < l.length) : getL (atts l) (i : Int) = l[i].att := by simp [getL, atts, h1]

def fewB (n : Nat) (l : List Claim) : Bool := (l.take (n + 1)).all (fun c => decide (c.att.length ≤ n)) && decide (l.length ≤ n)

theorem few_spec (x : Bool) (l : List Claim) (n : Nat) (hn : n ≤ 1000) (hc : CaseOk l) : pureCall E.P (L E) 9 [lst x (l.map Claim.val), .int .i64 (n : Int)] = some (.bool (fewB n l)) := by
  rw [pureCall_fn F9 rfl]
  simp -implicitDefEqProofs [r9, p9]
  rw [LL_for (γ := Unit) (l.take (n + 1)) () (fun i _ => [(5, .int .i64 i)]) (fun _ _ => []) (fun _ rest _ => if rest.all (fun c => decide (c.att.length ≤ n)) then (.exit 0, [(5, undef)], []) else (.ret, [(4, .bool false), (5, undef)], [])) (fun _ _ => True) (by simp; omega) trivial]
  · unfold fewB
    cases h : (l.take (n + 1)).all (fun c => decide (c.att.length ≤ n))
    · simp -implicitDefEqProofs [k9_2, -List.all_eq_true]
    · simp -implicitDefEqProofs [k9_2, -List.all_eq_true]
  · simp [k9_2]
  · rfl
  · intro nx i c hi _
    rw [List.length_take] at hi
    by_cases q1 : i < l.length
    · have q2 : ¬ (i ≤ n) := by omega
      simp -implicitDefEqProofs [r9_2, k9_2, q1, q2, trim_le]
    · simp -implicitDefEqProofs [r9_2, k9_2, q1, trim_le]
  · intro nx i c rest _ hi hv hd hw _ ih
    have ih := ih () trivial
    rw [List.length_take] at hi
    rw [List.getElem_take] at hv
    have q1 : i < l.length := by omega
    have q2 : i ≤ n := by omega
    obtain ⟨hk, _⟩ := hc c (hv ▸ List.getElem_mem q1)
    rw [List.all_cons]
    simp -implicitDefEqProofs [k9_2, -List.all_eq_true] at ih
    by_cases q3 : c.att.length ≤ n
    · have q3' : ¬ ((n : Int) < c.att.length) := by omega
      simp -implicitDefEqProofs [r9_2, k9_2, q1, q2, case_idxN q1, hv, hw, Claim.val, Claim.cells, il_len hk, q3, q3', trim_le, -List.all_eq_true]
      exact ih
    · have q3' : ((n : Int) < c.att.length) := by omega
      simp -implicitDefEqProofs [r9_2, k9_2, q1, q2, case_idxN q1, hv, Claim.val, Claim.cells, il_len hk, q3, q3', trim_le, -List.all_eq_true]

theorem attacks_spec (x : Bool) (l : List Claim) (z k : Int) (hc : CaseOk l) (h0 : 0 ≤ z) (h1 : z.toNat < l.length) :
    pureCall E.P (L E) 25 [lst x (l.map Claim.val), .int .i64 z, .int .i64 k] = some (.bool (memI (getL (atts l) z) k)) := by
  rw [getL_at h1, pureCall_fn F25 rfl]
  obtain ⟨hk, ha⟩ := hc l[z.toNat] (List.getElem_mem h1)
  have ci := case_idx (x := x) h0 h1
  generalize l[z.toNat] = c at *
  unfold maxLen at ha
  simp -implicitDefEqProofs [r25, p25]
  rw [LL_for (γ := Unit) c.att () (fun i _ => [(7, .int .i64 i)]) (fun _ _ => []) (fun _ rest _ => if memI rest k then (.ret, [(6, .bool true), (7, undef)], []) else (.exit 0, [(7, undef)], [])) (fun _ _ => True) ha trivial]
  · cases h : memI c.att k <;> simp [k25_2]
  · simp [k25_2]
  · rfl
  · intro nx i _ hi _
    simp -implicitDefEqProofs [r25_2, k25_2, ci, Claim.val, Claim.cells, il_len hk, hi, trim_le, memI]
  · intro nx i v rest _ hi hv hd hw _ ih
    have ih := ih () trivial
    have hm : memI (v :: rest) k = (decide (v = k) || memI rest k) := rfl
    simp -implicitDefEqProofs [k25_2] at ih
    rw [hm]
    by_cases he : v = k
    · simp -implicitDefEqProofs [r25_2, k25_2, ci, Claim.val, Claim.cells, il_len hk, hi, il_idxN hk hi, hv, he, trim_le]
    · simp -implicitDefEqProofs [r25_2, k25_2, ci, Claim.val, Claim.cells, il_len hk, hi, il_idxN hk hi, hv, hw, he, trim_le]
      exact ih

/-! ### Complete labellings -/

def complS (L : List Int) (i : Nat) (s : Bool × Bool) (p : List Int × Nat) : Bool × Bool := if memI p.1 (i : Int) then (s.1 && decide (getI L p.2 = 2), s.2 || decide (getI L p.2 = 1)) else s
def complI (L : List Int) (i : Nat) : List (List Int) → Nat → Bool × Bool → Bool × Bool
  | [], _, s => s
  | a :: A, k, s => complI L i A (k + 1) (complS L i s (a, k))
def complAt (A : List (List Int)) (L : List Int) (i : Nat) : Bool :=
  let s := complI L i A 0 (true, false)
  decide (decide (getI L i = 1) = s.1) && decide (decide (getI L i = 2) = s.2)
def complG (A : List (List Int)) (L : List Int) : List (List Int) → Nat → Bool
  | [], _ => true
  | _ :: r, i => complAt A L i && complG A L r (i + 1)
def complB (A : List (List Int)) (L : List Int) : Bool := complG A L A 0

theorem ub : E.P.underlying 4 = some .bool := by kernel_rfl

set_option maxRecDepth 20000 in
theorem complete_spec (x : Bool) (l : List Claim) (k : Option Bool) (Lb : List Int) (hc : CaseOk l) (hl : l.length ≤ 1000) (hk : IOk k Lb) (hL : Lb.length = l.length) :
    pureCall E.P (L E) 23 [lst x (l.map Claim.val), ilist k Lb] = some (.bool (complB (atts l) Lb)) := by
  rw [pureCall_fn F23 rfl]
  simp -implicitDefEqProofs [r23, p23]
  unfold complB
  rw [LL_for (γ := Unit) l () (fun i _ => [(5, .int .i64 i)]) (fun _ _ => []) (fun i rest _ => if complG (atts l) Lb (atts rest) i then (.exit 0, [(5, undef)], []) else (.ret, [(4, .bool false), (5, undef)], [])) (fun _ _ => True) (by omega) trivial]
  · cases h : complG (atts l) Lb (atts l) 0 <;> simp -implicitDefEqProofs [k23_2]
  · simp -implicitDefEqProofs [k23_2]
  · rfl
  · intro nx i _ hi _
    simp -implicitDefEqProofs [r23_2, k23_2, hi, trim_le, atts, complG]
  · intro nx i c rest _ hi hv hd hw _ ih
    have ih := ih () trivial
    have hiL : i < Lb.length := by omega
    have hm : complG (atts l) Lb (atts (c :: rest)) i = (complAt (atts l) Lb i && complG (atts l) Lb (atts rest) (i + 1)) := rfl
    simp -implicitDefEqProofs [k23_2] at ih
    rw [hm]
    simp -implicitDefEqProofs [r23_2, k23_2, hi]
    rw [LL_for (γ := Bool × Bool) l (true, false) (fun j s => [(6, .bool s.1), (7, .bool s.2), (8, .int .i64 j)]) (fun _ _ => []) (fun j rest s => let o := complI Lb i (atts rest) j s; (.exit 2, [(6, .bool o.1), (7, .bool o.2), (8, undef)], [])) (fun _ _ => True) (by omega) trivial]
    · unfold complAt
      generalize complI Lb i (atts l) 0 (true, false) = s at *
      obtain ⟨a, b⟩ := s
      have gi := getI_nat hiL
      by_cases q1 : Lb[i] = 1
      · cases a
        · simp -implicitDefEqProofs [k23_7, il_idxN hk hiL, gi, q1, bin_neq_bool ub, trim_le]
        · cases b
          · simp -implicitDefEqProofs [k23_7, il_idxN hk hiL, gi, q1, bin_neq_bool ub, hw, trim_le]
            exact ih
          · simp -implicitDefEqProofs [k23_7, il_idxN hk hiL, gi, q1, bin_neq_bool ub, trim_le]
      · cases a
        · by_cases q2 : Lb[i] = 2
          · cases b
            · simp -implicitDefEqProofs [k23_7, il_idxN hk hiL, gi, q2, bin_neq_bool ub, trim_le]
            · simp -implicitDefEqProofs [k23_7, il_idxN hk hiL, gi, q2, bin_neq_bool ub, hw, trim_le]
              exact ih
          · cases b
            · simp -implicitDefEqProofs [k23_7, il_idxN hk hiL, gi, q1, q2, bin_neq_bool ub, hw, trim_le]
              exact ih
            · simp -implicitDefEqProofs [k23_7, il_idxN hk hiL, gi, q1, q2, bin_neq_bool ub, trim_le]
        · simp -implicitDefEqProofs [k23_7, il_idxN hk hiL, gi, q1, bin_neq_bool ub, trim_le]
    · simp -implicitDefEqProofs [k23_7]
    · rfl
    · intro nx j s hj _
      simp -implicitDefEqProofs [r23_7, k23_7, hj, trim_le, atts, complI]
    · intro nx j c2 rest2 s hj hvj hdj hwj _ ihj
      have hjL : j < Lb.length := by omega
      have at1 := attacks_spec x l (j : Int) (i : Int) hc (by omega) (by simpa using hj)
      rw [getL_nat hj, hvj] at at1
      have gj := getI_nat hjL
      have hmj : complI Lb i (atts (c2 :: rest2)) j s = complI Lb i (atts rest2) (j + 1) (complS Lb i s (c2.att, j)) := rfl
      have ihj := ihj (complS Lb i s (c2.att, j)) trivial
      simp only [hmj]
      obtain ⟨a, b⟩ := s
      unfold complS at ihj ⊢
      cases hm : memI c2.att (i : Int)
      · rw [hm] at at1
        simp -implicitDefEqProofs [k23_7, hm] at ihj
        simp -implicitDefEqProofs [r23_7, k23_7, hj, ret0 m25, at1, hwj, trim_le]
        exact ihj
      · rw [hm] at at1
        by_cases q1 : Lb[j] = 1
        · cases a <;> cases b <;> simp -implicitDefEqProofs [k23_7, hm, gj, q1] at ihj <;> simp -implicitDefEqProofs [r23_7, k23_7, hj, ret0 m25, at1, hwj, il_idxN hk hjL, gj, q1, trim_le] <;> exact ihj
        · by_cases q2 : Lb[j] = 2
          · cases a <;> cases b <;> simp -implicitDefEqProofs [k23_7, hm, gj, q2] at ihj <;> simp -implicitDefEqProofs [r23_7, k23_7, hj, ret0 m25, at1, hwj, il_idxN hk hjL, gj, q2, trim_le] <;> exact ihj
          · cases a <;> cases b <;> simp -implicitDefEqProofs [k23_7, hm, gj, q1, q2] at ihj <;> simp -implicitDefEqProofs [r23_7, k23_7, hj, ret0 m25, at1, hwj, il_idxN hk hjL, gj, q1, q2, trim_le] <;> exact ihj

/-! ### slices.Index, Contains, IndexFunc, ContainsFunc at integers -/

def idxI (p : Int → Bool) : List Int → Nat → Int
  | [], _ => -1
  | a :: l, k => if p a then (k : Int) else idxI p l (k + 1)
theorem idxI_ge {p : Int → Bool} : ∀ {l : List Int} {k : Nat}, decide (0 ≤ idxI p l k) = l.any p
  | [], k => by simp [idxI]
  | a :: l, k => by
    unfold idxI
    cases h : p a with
    | true => simp [h]
    | false => simp only [Bool.false_eq_true, if_false, List.any_cons, h, Bool.false_or]; exact idxI_ge
theorem idxI_no {p : Int → Bool} : ∀ {l : List Int} {k : Nat}, l.any p = false → idxI p l k = -1
  | [], _, _ => rfl
  | a :: l, k, h => by
    simp only [List.any_cons, Bool.or_eq_false_iff] at h
    unfold idxI
    rw [h.1]
    exact idxI_no h.2

theorem index_spec (k : Option Bool) (l : List Int) (s : Int) (hk : IOk k l) (hl : l.length ≤ maxLen) : pureCall E.P (L E) 47 [ilist k l, .int .i64 s] = some (.int .i64 (idxI (fun z => decide (s = z)) l 0)) := by
  unfold maxLen at hl
  rw [pureCall_fn F47 rfl]
  simp -implicitDefEqProofs [r47, p47, il_len hk]
  rw [LL_for (γ := Unit) l () (fun i _ => [(8, .int .i64 i)]) (fun _ _ => []) (fun i rest _ => if rest.any (fun z => decide (s = z)) then (.ret, [(4, .int .i64 (idxI (fun z => decide (s = z)) rest i)), (8, undef)], []) else (.exit 0, [(8, undef)], [])) (fun _ _ => True) hl trivial]
  · cases h : l.any (fun z => decide (s = z))
    · rw [idxI_no h]; simp [k47_2]
    · simp [k47_2]
  · simp [k47_2]
  · rfl
  · intro nx i c hi _
    simp -implicitDefEqProofs [r47_2, k47_2, hi, trim_le]
  · intro nx i v rest c hi hv hd hw _ ih
    have ih := ih () trivial
    simp -implicitDefEqProofs [k47_2, -List.any_eq_true] at ih
    rw [List.any_cons, idxI]
    by_cases he : s = v
    · simp -implicitDefEqProofs [r47_2, k47_2, hi, il_idxN hk hi, hv, he, trim_le, -List.any_eq_true]
    · simp -implicitDefEqProofs [r47_2, k47_2, hi, il_idxN hk hi, hv, hw, he, trim_le, -List.any_eq_true]
      exact ih
theorem any_memI {l : List Int} {s : Int} : l.any (fun z => decide (s = z)) = memI l s := by
  unfold memI; congr 1; funext z; exact decide_eq_decide.2 eq_comm
theorem contains_spec (k : Option Bool) (l : List Int) (s : Int) (hk : IOk k l) (hl : l.length ≤ maxLen) : pureCall E.P (L E) 43 [ilist k l, .int .i64 s] = some (.bool (memI l s)) := by
  rw [pureCall_fn F43 rfl]
  simp -implicitDefEqProofs [r43, p43, ret0 m47, index_spec k l s hk hl, idxI_ge, any_memI]

theorem indexF_spec (k : Option Bool) (l : List Int) (g : FuncId) (caps : List Value) (p : Int → Bool) (hk : IOk k l) (hm : E.mode g = 0) (_hset : caps.all (settled 8) = true)
    (hr : ∀ h, reifyAll E.P h caps = some caps) (hp : ∀ z ∈ l, pureCall E.P (L E) g (.int .i64 z :: caps) = some (.bool (p z))) (hl : l.length ≤ maxLen) :
    pureCall E.P (L E) 46 [ilist k l, .func (.func g) ⟨[]⟩ ⟨caps⟩] = some (.int .i64 (idxI p l 0)) := by
  unfold maxLen at hl
  rw [pureCall_fn F46 rfl]
  simp -implicitDefEqProofs [r46, p46, il_len hk]
  rw [LL_for (γ := Unit) l () (fun i _ => [(8, .int .i64 i)]) (fun _ _ => []) (fun i rest _ => if rest.any p then (.ret, [(4, .int .i64 (idxI p rest i)), (8, undef)], []) else (.exit 0, [(8, undef)], [])) (fun _ _ => True) hl trivial]
  · cases h : l.any p
    · rw [idxI_no h]; simp [k46_2]
    · simp [k46_2]
  · simp [k46_2]
  · rfl
  · intro nx i c hi _
    simp -implicitDefEqProofs [r46_2, k46_2, hi, trim_le]
  · intro nx i v rest c hi hv hd hw _ ih
    have ih := ih () trivial
    have hpv := hp v (hv ▸ List.getElem_mem hi)
    simp -implicitDefEqProofs [k46_2, -List.any_eq_true] at ih
    rw [List.any_cons, idxI]
    cases he : p v
    · rw [he] at hpv
      simp -implicitDefEqProofs [r46_2, k46_2, hi, il_idxN hk hi, hv, hw, ret0 hm, hr, hpv, trim_le, -List.any_eq_true]
      exact ih
    · rw [he] at hpv
      simp -implicitDefEqProofs [r46_2, k46_2, hi, il_idxN hk hi, hv, ret0 hm, hr, hpv, trim_le, -List.any_eq_true]
theorem containsF_spec (k : Option Bool) (l : List Int) (g : FuncId) (caps : List Value) (p : Int → Bool) (hk : IOk k l) (hm : E.mode g = 0) (hset : caps.all (settled 8) = true) (_hset7 : caps.all (settled 7) = true)
    (hr : ∀ h, reifyAll E.P h caps = some caps) (hp : ∀ z ∈ l, pureCall E.P (L E) g (.int .i64 z :: caps) = some (.bool (p z))) (hl : l.length ≤ maxLen) :
    pureCall E.P (L E) 40 [ilist k l, .func (.func g) ⟨[]⟩ ⟨caps⟩] = some (.bool (l.any p)) := by
  have e := indexF_spec k l g caps p hk hm hset hr hp hl
  rw [pureCall_fn F40 rfl]
  simp -implicitDefEqProofs [r40, p40, ret0 m46, hset, e, idxI_ge]

/-! ### known, beats -/

def knownB (A : List (List Int)) (S : List Int) : Bool := rightB A && !S.any (fun i => decide (i < 0) || decide ((A.length : Int) ≤ i))
def beatsB (A : List (List Int)) (S : List Int) (c : Int) : Bool := S.any fun i => memI (getL A i) c

theorem s22 : szOf E.P 22 = some 1 := by kernel_rfl
theorem a22 : aggT E.P 22 = some false := by kernel_rfl
theorem s3 : szOf E.P 3 = some 1 := by kernel_rfl
theorem a3 : aggT E.P 3 = some false := by kernel_rfl

theorem known1_spec (x : Bool) (l : List Claim) (z : Int) : pureCall E.P (L E) 41 [.int .i64 z, cptr (lst x (l.map Claim.val))] = some (.bool (decide (z < 0) || decide ((l.length : Int) ≤ z))) := by
  rw [pureCall_fn F41 rfl]
  by_cases h : z < 0
  · simp -implicitDefEqProofs [r41, p41, h]
  · simp -implicitDefEqProofs [r41, p41, h]
theorem known_spec (x : Bool) (l : List Claim) (k : Option Bool) (S : List Int) (hc : CaseOk l) (hl : l.length ≤ maxLen) (hk : IOk k S) (hS : S.length ≤ maxLen) :
    pureCall E.P (L E) 31 [lst x (l.map Claim.val), ilist k S] = some (.bool (knownB (atts l) S)) := by
  have r := right_spec x l hc hl
  have c := containsF_spec k S 41 [cptr (lst x (l.map Claim.val))] _ hk m41 rfl rfl (fun h => rfl) (fun z _ => known1_spec x l z) hS
  rw [pureCall_fn F31 rfl]
  unfold knownB
  rw [atts_len]
  cases hr : rightB (atts l)
  · rw [hr] at r
    simp -implicitDefEqProofs [r31, p31, ret0 m13, r]
  · rw [hr] at r
    simp -implicitDefEqProofs [r31, p31, ret0 m13, r, ret0 m40, s22, a22, c, -List.any_eq_true]
theorem beats1_spec (x : Bool) (l : List Claim) (z c : Int) (hc : CaseOk l) (h0 : 0 ≤ z) (h1 : z.toNat < l.length) :
    pureCall E.P (L E) 42 [.int .i64 z, cptr (lst x (l.map Claim.val)), cptr (.int .i64 c)] = some (.bool (memI (getL (atts l) z) c)) := by
  rw [getL_at h1, pureCall_fn F42 rfl]
  obtain ⟨hk, ha⟩ := hc l[z.toNat] (List.getElem_mem h1)
  have ci := case_idx (x := x) h0 h1
  generalize l[z.toNat] = d at *
  have cs := contains_spec d.k d.att c hk ha
  simp -implicitDefEqProofs [r42, p42, ci, Claim.val, Claim.cells, ret0 m43, cs]
theorem beats_spec (x : Bool) (l : List Claim) (k : Option Bool) (S : List Int) (c : Int) (hc : CaseOk l) (hk : IOk k S) (hS : S.length ≤ maxLen) (hin : ∀ z ∈ S, 0 ≤ z ∧ z.toNat < l.length) :
    pureCall E.P (L E) 32 [lst x (l.map Claim.val), ilist k S, .int .i64 c] = some (.bool (beatsB (atts l) S c)) := by
  have cf := containsF_spec k S 42 [cptr (lst x (l.map Claim.val)), cptr (.int .i64 c)] _ hk m42 rfl rfl (fun h => rfl) (fun z hz => beats1_spec x l z c hc (hin z hz).1 (hin z hz).2) hS
  rw [pureCall_fn F32 rfl]
  unfold beatsB
  simp -implicitDefEqProofs [r32, p32, ret0 m40, s22, a22, s3, a3, cf, -List.any_eq_true]

end Go.Proofs.Ytbadgapficfbpaa.Bm
