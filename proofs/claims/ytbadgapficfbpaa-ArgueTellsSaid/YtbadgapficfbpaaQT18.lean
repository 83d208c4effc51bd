/-
 Chapter 36: the grounded labelling, as the program finds it. Conditions: lists that are not too long.
-/
import Derived.Test.YtbadgapficfbpaaQT17
namespace Go.Proofs.Ytbadgapficfbpaa.Bm
open Go Go.RowKit
section
variable {h : Heap} {k : Option Bool} {l : List Int} {z : Int} {e : TypeId}
theorem il_len (hk : IOk k l) : lenT .sl h (ilist k l) = some (.int .i64 l.length) := by
 cases k with
 | none => have := hk rfl; subst this; rfl
 | some b => simp [ilist]
theorem il_idx (hk : IOk k l) (h0 : 0 ≤ z) (h1 : z.toNat < l.length) : indexAddrT (.sl e ⟨some false, some 1⟩) (ilist k l) (.int .i64 z) = some (cptr (.int .i64 (getI l z))) := by
 cases k with
 | none => have := hk rfl; subst this; simp at h1
 | some b => simp [ilist, h0, h1, getI]
theorem il_idxN {i : Nat} (hk : IOk k l) (h1 : i < l.length) : indexAddrT (.sl e ⟨some false, some 1⟩) (ilist k l) (.int .i64 (i : Int)) = some (cptr (.int .i64 l[i])) := by
 rw [il_idx hk (by omega) (by simpa using h1)]; simp [getI, h1]
theorem getI_nat {i : Nat} (h1 : i < l.length) : getI l (i : Int) = l[i] := by simp [getI, h1]
theorem il_one : one (ilist k l) = true := by cases k <;> rfl
theorem il_fits {sz : Option Nat} : fitsTT ⟨some false, sz⟩ (ilist k l) = true := by cases k <;> rfl
theorem il_set {n : Nat} : settled (n + 1) (ilist k l) = true := by cases k <;> rfl
theorem il_bel {d n : Nat} : below (d + 1) n (ilist k l) = true := by cases k <;> rfl
theorem il_reify {P : Program} {n : Nat} : reify P (n + 1) h (ilist k l) = some (ilist k l) := by cases k <;> rfl
theorem il_reifyR {P : Program} : reifyR P h (ilist k l) = some (ilist k l) := by cases k <;> rfl
theorem il_cells1 : cellsL (ilist k l) = [ilist k l] := by cases k <;> rfl
theorem il_cells {s : Nat} (hs : s = 1) (hk : IOk k l) : sliceCells h s (ilist k l) = some (l.map (.int .i64), l.length) := by
 subst hs
 cases k with
 | none => have := hk rfl; subst this; rfl
 | some b =>
  rw [ilist, cells_lst (by simp [List.all_eq_true])]
  have : ∀ l : List Int, (l.map (Value.int .i64)).flatMap cellsL = l.map (Value.int .i64) := by
   intro l
   induction l with
   | nil => rfl
   | cons a l ih => simp only [List.map_cons, List.flatMap_cons, ih]; rfl
  rw [this, List.length_map]
theorem il_cellsOf : cellsOf (ilist k l) = some [ilist k l] := by cases k <;> rfl
theorem iok_some {b : Bool} : IOk (some b) l := fun h => by cases h
end
attribute [simp] il_one il_fits il_set il_bel il_reify il_reifyR il_cells1 il_cellsOf
section
variable {x : Bool} {l : List Claim} {z : Int}
theorem case_idx (h0 : 0 ≤ z) (h1 : z.toNat < l.length) : indexAddrT (.sl 40 ⟨some true, some 6⟩) (lst x (l.map Claim.val)) (.int .i64 z) = some (cptr l[z.toNat].val) := by
 simp [h0, h1, Claim.val, Claim.cells]
theorem case_idxN {i : Nat} (h1 : i < l.length) : indexAddrT (.sl 40 ⟨some true, some 6⟩) (lst x (l.map Claim.val)) (.int .i64 (i : Int)) = some (cptr l[i].val) := by
 simp [h1, Claim.val, Claim.cells]
end
def eqB (a b : List Int) : Bool := decide (a = b)
theorem eqB_cons {a b : Int} {x y : List Int} : eqB (a :: x) (b :: y) = (decide (a = b) && eqB x y) := by
 unfold eqB; simp only [List.cons.injEq, Bool.decide_and]
theorem ints_spec (k m : Option Bool) (l r : List Int) (hk : IOk k l) (hm : IOk m r) (hl : l.length ≤ maxLen) : pureCall E.P (L E) 12 [ilist k l, ilist m r] = some (.bool (decide (l = r))) := by
 unfold maxLen at hl
 rw [pureCall_fn F12 rfl]
 simp -implicitDefEqProofs [r12, p12, il_len hk, il_len hm]
 by_cases hlen : l.length = r.length
 ·simp -implicitDefEqProofs [hlen]
  rw [LL_for (γ := Unit) l () (fun i _ => [(5, .int .i64 i)]) (fun _ _ => []) (fun i rest _ => if eqB rest (r.drop i) then (.exit 0, [(5, undef)], []) else (.ret, [(4, .bool false), (5, undef)], [])) (fun _ _ => True) hl trivial]
  ·cases h : eqB l r
   ·have : ¬ l = r := of_decide_eq_false h
    simp [this, k12_4, h]
   ·have : l = r := of_decide_eq_true h
    simp [this, k12_4, eqB]
  ·simp [k12_4]
  ·rfl
  ·intro nx i c hi _
   have hd0 : eqB [] (r.drop i) = true := by rw [List.drop_eq_nil_of_le (by omega)]; rfl
   rw [hd0]
   simp -implicitDefEqProofs [r12_4, k12_4, il_len hk, hi, hlen, trim_le]
  ·intro nx i v rest c hi hv hd hw _ ih
   have ih := ih () trivial
   have hi' : i < r.length := by omega
   have hi2 : ((i : Int) < r.length) := by omega
   have hrd : r.drop i = r[i] :: r.drop (i + 1) := List.drop_eq_getElem_cons hi'
   rw [hrd, eqB_cons]
   simp -implicitDefEqProofs [k12_4] at ih
   by_cases he : v = r[i]
   ·simp -implicitDefEqProofs [r12_4, k12_4, il_len hk, hi', hlen, il_idxN hk hi, il_idxN hm hi', hv, hw, he, trim_le]
    exact ih
   ·simp -implicitDefEqProofs [r12_4, k12_4, il_len hk, hi', hlen, il_idxN hk hi, il_idxN hm hi', hv, he, trim_le]
 ·have : ¬ l = r := fun e => hlen (by rw [e])
  have hlen' : ¬ ((l.length : Int) = r.length) := by omega
  simp -implicitDefEqProofs [hlen', this]
def memI (l : List Int) (s : Int) : Bool := l.any fun z => decide (z = s)
theorem memI_mem {l : List Int} {z : Int} : memI l z = true ↔ z ∈ l := by
 unfold memI
 simp [List.any_eq_true]
theorem right_spec (x : Bool) (l : List Claim) (hc : CaseOk l) (hl : l.length ≤ maxLen) : pureCall E.P (L E) 13 [lst x (l.map Claim.val)] = some (.bool (rightB (atts l))) := by
 unfold maxLen at hl
 rw [pureCall_fn F13 rfl]
 simp -implicitDefEqProofs [r13, p13]
 rw [LL_for (γ := Unit) l () (fun i _ => [(10, .int .i64 i)]) (fun _ _ => []) (fun _ rest _ => if (atts rest).all (ascB l.length (-1)) then (.exit 0, [(10, undef)], []) else (.ret, [(2, .bool false), (10, undef)], [])) (fun _ _ => True) hl trivial]
 ·unfold rightB
  have e : (atts l).length = l.length := by simp [atts]
  rw [e]
  cases h : (atts l).all (ascB l.length (-1))
  ·simp [k13_2]
  ·simp -implicitDefEqProofs [k13_2]
   omega
 ·simp [k13_2]
 ·rfl
 ·intro nx i c hi _
  simp -implicitDefEqProofs [r13_2, k13_2, hi, trim_le, atts]
 ·intro nx i c rest _ hi hv hd hw _ ih
  have ih := ih () trivial
  have hm : (atts (c :: rest)).all (ascB l.length (-1)) = (ascB l.length (-1) c.att && (atts rest).all (ascB l.length (-1))) := rfl
  simp -implicitDefEqProofs [k13_2, -List.all_eq_true] at ih
  obtain ⟨hk, ha⟩ := hc c (hv ▸ List.getElem_mem hi)
  unfold maxLen at ha
  rw [hm]
  simp -implicitDefEqProofs [r13_2, k13_2, hi, case_idxN hi, hv, Claim.val, Claim.cells, il_len hk, -List.all_eq_true]
  rw [LL_for (γ := Int) c.att (-1) (fun i last => [(5, .int .i64 last), (17, .int .i64 i)]) (fun _ _ => [.cells 40 c.cells 0]) (fun _ rest last => if ascB l.length last rest then (.exit 2, [(17, undef), (5, undef)], [.cells 40 c.cells 0]) else (.ret, [(2, .bool false), (17, undef), (5, undef)], [.cells 40 c.cells 0])) (fun _ _ => True) ha trivial]
  ·cases hb : ascB l.length (-1) c.att
   ·simp -implicitDefEqProofs [k13_6, Claim.cells, trim_cut, -List.all_eq_true]
   ·simp -implicitDefEqProofs [k13_6, Claim.cells, hw, trim_cut, -List.all_eq_true]
    exact ih
  ·simp -implicitDefEqProofs [k13_6]
  ·simp -implicitDefEqProofs [Claim.cells]
  ·intro nx j last hj _
   simp -implicitDefEqProofs [r13_6, k13_6, hj, ascB, trim_le]
  ·intro nx j v rest' last hj hvj hdj hwj _ ihj
   have ihj := ihj v trivial
   have ha : ascB l.length last (v :: rest') = (decide (last < v) && decide (v < l.length) && ascB l.length v rest') := rfl
   simp -implicitDefEqProofs [k13_6, Claim.cells] at ihj
   rw [ha]
   by_cases q1 : last < v
   ·have q1' : ¬ v ≤ last := by omega
    by_cases q2 : v < l.length
    ·have q2' : ¬ (l.length : Int) ≤ v := by omega
     simp -implicitDefEqProofs [r13_6, k13_6, Claim.cells, hj, il_idxN hk hj, hvj, hwj, q1, q1', q2, q2', trim_le]
     exact ihj
    ·have q2' : (l.length : Int) ≤ v := by omega
     simp -implicitDefEqProofs [r13_6, k13_6, Claim.cells, hj, il_idxN hk hj, hvj, q1, q1', q2, q2', trim_le]
   ·have q1' : v ≤ last := by omega
    simp -implicitDefEqProofs [r13_6, k13_6, Claim.cells, hj, il_idxN hk hj, hvj, q1, q1', trim_le]
end Go.Proofs.Ytbadgapficfbpaa.Bm
namespace Go.Proofs.Ytbadgapficfbpaa.Bm
open Go Go.RowKit
theorem atts_len (l : List Claim) : (atts l).length = l.length := by simp [atts]
theorem getL_at {l : List Claim} {z : Int} (h1 : z.toNat < l.length) : getL (atts l) z = l[z.toNat].att := by simp [getL, atts, h1]
def fewB (n : Nat) (l : List Claim) : Bool := (l.take (n + 1)).all (fun c => decide (c.att.length ≤ n)) && decide (l.length ≤ n)
theorem few_spec (x : Bool) (l : List Claim) (n : Nat) (hn : n ≤ 1000) (hc : CaseOk l) : pureCall E.P (L E) 9 [lst x (l.map Claim.val), .int .i64 (n : Int)] = some (.bool (fewB n l)) := by
 rw [pureCall_fn F9 rfl]
 simp -implicitDefEqProofs [r9, p9]
 rw [LL_for (γ := Unit) (l.take (n + 1)) () (fun i _ => [(5, .int .i64 i)]) (fun _ _ => []) (fun _ rest _ => if rest.all (fun c => decide (c.att.length ≤ n)) then (.exit 0, [(5, undef)], []) else (.ret, [(4, .bool false), (5, undef)], [])) (fun _ _ => True) (by simp; omega) trivial]
 ·unfold fewB
  cases h : (l.take (n + 1)).all (fun c => decide (c.att.length ≤ n))
  ·simp -implicitDefEqProofs [k9_2, -List.all_eq_true]
  ·simp -implicitDefEqProofs [k9_2, -List.all_eq_true]
 ·simp [k9_2]
 ·rfl
 ·intro nx i c hi _
  rw [List.length_take] at hi
  by_cases q1 : i < l.length
  ·have q2 : ¬ (i ≤ n) := by omega
   simp -implicitDefEqProofs [r9_2, k9_2, q1, q2, trim_le]
  ·simp -implicitDefEqProofs [r9_2, k9_2, q1, trim_le]
 ·intro nx i c rest _ hi hv hd hw _ ih
  have ih := ih () trivial
  rw [List.length_take] at hi
  rw [List.getElem_take] at hv
  have q1 : i < l.length := by omega
  have q2 : i ≤ n := by omega
  obtain ⟨hk, _⟩ := hc c (hv ▸ List.getElem_mem q1)
  rw [List.all_cons]
  simp -implicitDefEqProofs [k9_2, -List.all_eq_true] at ih
  by_cases q3 : c.att.length ≤ n
  ·have q3' : ¬ ((n : Int) < c.att.length) := by omega
   simp -implicitDefEqProofs [r9_2, k9_2, q1, q2, case_idxN q1, hv, hw, Claim.val, Claim.cells, il_len hk, q3, q3', trim_le, -List.all_eq_true]
   exact ih
  ·have q3' : ((n : Int) < c.att.length) := by omega
   simp -implicitDefEqProofs [r9_2, k9_2, q1, q2, case_idxN q1, hv, Claim.val, Claim.cells, il_len hk, q3, q3', trim_le, -List.all_eq_true]
def idxI (p : Int → Bool) : List Int → Nat → Int
 | [], _ => -1
 | a :: l, k => if p a then (k : Int) else idxI p l (k + 1)
theorem idxI_ge {p : Int → Bool} : ∀ {l : List Int} {k : Nat}, decide (0 ≤ idxI p l k) = l.any p
 | [], k => by simp [idxI]
 | a :: l, k => by
  unfold idxI
  cases h : p a with
  | true => simp [h]
  | false => simp only [Bool.false_eq_true, if_false, List.any_cons, h, Bool.false_or]; exact idxI_ge
theorem idxI_no {p : Int → Bool} : ∀ {l : List Int} {k : Nat}, l.any p = false → idxI p l k = -1
 | [], _, _ => rfl
 | a :: l, k, h => by
  simp only [List.any_cons, Bool.or_eq_false_iff] at h
  unfold idxI
  rw [h.1]
  exact idxI_no h.2
theorem index_spec (k : Option Bool) (l : List Int) (s : Int) (hk : IOk k l) (hl : l.length ≤ maxLen) : pureCall E.P (L E) 47 [ilist k l, .int .i64 s] = some (.int .i64 (idxI (fun z => decide (s = z)) l 0)) := by
 unfold maxLen at hl
 rw [pureCall_fn F47 rfl]
 simp -implicitDefEqProofs [r47, p47, il_len hk]
 rw [LL_for (γ := Unit) l () (fun i _ => [(8, .int .i64 i)]) (fun _ _ => []) (fun i rest _ => if rest.any (fun z => decide (s = z)) then (.ret, [(4, .int .i64 (idxI (fun z => decide (s = z)) rest i)), (8, undef)], []) else (.exit 0, [(8, undef)], [])) (fun _ _ => True) hl trivial]
 ·cases h : l.any (fun z => decide (s = z))
  ·rw [idxI_no h]; simp [k47_2]
  ·simp [k47_2]
 ·simp [k47_2]
 ·rfl
 ·intro nx i c hi _
  simp -implicitDefEqProofs [r47_2, k47_2, hi, trim_le]
 ·intro nx i v rest c hi hv hd hw _ ih
  have ih := ih () trivial
  simp -implicitDefEqProofs [k47_2, -List.any_eq_true] at ih
  rw [List.any_cons, idxI]
  by_cases he : s = v
  ·simp -implicitDefEqProofs [r47_2, k47_2, hi, il_idxN hk hi, hv, he, trim_le, -List.any_eq_true]
  ·simp -implicitDefEqProofs [r47_2, k47_2, hi, il_idxN hk hi, hv, hw, he, trim_le, -List.any_eq_true]
   exact ih
theorem any_memI {l : List Int} {s : Int} : l.any (fun z => decide (s = z)) = memI l s := by
 unfold memI; congr 1; funext z; exact decide_eq_decide.2 eq_comm
theorem contains_spec (k : Option Bool) (l : List Int) (s : Int) (hk : IOk k l) (hl : l.length ≤ maxLen) : pureCall E.P (L E) 43 [ilist k l, .int .i64 s] = some (.bool (memI l s)) := by
 rw [pureCall_fn F43 rfl]
 simp -implicitDefEqProofs [r43, p43, ret0 m47, index_spec k l s hk hl, idxI_ge, any_memI]
theorem indexF_spec (k : Option Bool) (l : List Int) (g : FuncId) (caps : List Value) (p : Int → Bool) (hk : IOk k l) (hm : E.mode g = 0) (_hset : caps.all (settled 8) = true)
  (hr : ∀ h, reifyAll E.P h caps = some caps) (hp : ∀ z ∈ l, pureCall E.P (L E) g (.int .i64 z :: caps) = some (.bool (p z))) (hl : l.length ≤ maxLen) :
  pureCall E.P (L E) 46 [ilist k l, .func (.func g) ⟨[]⟩ ⟨caps⟩] = some (.int .i64 (idxI p l 0)) := by
 unfold maxLen at hl
 rw [pureCall_fn F46 rfl]
 simp -implicitDefEqProofs [r46, p46, il_len hk]
 rw [LL_for (γ := Unit) l () (fun i _ => [(8, .int .i64 i)]) (fun _ _ => []) (fun i rest _ => if rest.any p then (.ret, [(4, .int .i64 (idxI p rest i)), (8, undef)], []) else (.exit 0, [(8, undef)], [])) (fun _ _ => True) hl trivial]
 ·cases h : l.any p
  ·rw [idxI_no h]; simp [k46_2]
  ·simp [k46_2]
 ·simp [k46_2]
 ·rfl
 ·intro nx i c hi _
  simp -implicitDefEqProofs [r46_2, k46_2, hi, trim_le]
 ·intro nx i v rest c hi hv hd hw _ ih
  have ih := ih () trivial
  have hpv := hp v (hv ▸ List.getElem_mem hi)
  simp -implicitDefEqProofs [k46_2, -List.any_eq_true] at ih
  rw [List.any_cons, idxI]
  cases he : p v
  ·rw [he] at hpv
   simp -implicitDefEqProofs [r46_2, k46_2, hi, il_idxN hk hi, hv, hw, ret0 hm, hr, hpv, trim_le, -List.any_eq_true]
   exact ih
  ·rw [he] at hpv
   simp -implicitDefEqProofs [r46_2, k46_2, hi, il_idxN hk hi, hv, ret0 hm, hr, hpv, trim_le, -List.any_eq_true]
theorem containsF_spec (k : Option Bool) (l : List Int) (g : FuncId) (caps : List Value) (p : Int → Bool) (hk : IOk k l) (hm : E.mode g = 0) (hset : caps.all (settled 8) = true) (_hset7 : caps.all (settled 7) = true)
  (hr : ∀ h, reifyAll E.P h caps = some caps) (hp : ∀ z ∈ l, pureCall E.P (L E) g (.int .i64 z :: caps) = some (.bool (p z))) (hl : l.length ≤ maxLen) :
  pureCall E.P (L E) 40 [ilist k l, .func (.func g) ⟨[]⟩ ⟨caps⟩] = some (.bool (l.any p)) := by
 have e := indexF_spec k l g caps p hk hm hset hr hp hl
 rw [pureCall_fn F40 rfl]
 simp -implicitDefEqProofs [r40, p40, ret0 m46, hset, e, idxI_ge]
def knownB (A : List (List Int)) (S : List Int) : Bool := rightB A && !S.any (fun i => decide (i < 0) || decide ((A.length : Int) ≤ i))
def beatsB (A : List (List Int)) (S : List Int) (c : Int) : Bool := S.any fun i => memI (getL A i) c
theorem s22 : szOf E.P 22 = some 1 := by kernel_rfl
theorem a22 : aggT E.P 22 = some false := by kernel_rfl
theorem s3 : szOf E.P 3 = some 1 := by kernel_rfl
theorem a3 : aggT E.P 3 = some false := by kernel_rfl
theorem known1_spec (x : Bool) (l : List Claim) (z : Int) : pureCall E.P (L E) 41 [.int .i64 z, cptr (lst x (l.map Claim.val))] = some (.bool (decide (z < 0) || decide ((l.length : Int) ≤ z))) := by
 rw [pureCall_fn F41 rfl]
 by_cases h : z < 0
 ·simp -implicitDefEqProofs [r41, p41, h]
 ·simp -implicitDefEqProofs [r41, p41, h]
theorem known_spec (x : Bool) (l : List Claim) (k : Option Bool) (S : List Int) (hc : CaseOk l) (hl : l.length ≤ maxLen) (hk : IOk k S) (hS : S.length ≤ maxLen) :
  pureCall E.P (L E) 31 [lst x (l.map Claim.val), ilist k S] = some (.bool (knownB (atts l) S)) := by
 have r := right_spec x l hc hl
 have c := containsF_spec k S 41 [cptr (lst x (l.map Claim.val))] _ hk m41 rfl rfl (fun h => rfl) (fun z _ => known1_spec x l z) hS
 rw [pureCall_fn F31 rfl]
 unfold knownB
 rw [atts_len]
 cases hr : rightB (atts l)
 ·rw [hr] at r
  simp -implicitDefEqProofs [r31, p31, ret0 m13, r]
 ·rw [hr] at r
  simp -implicitDefEqProofs [r31, p31, ret0 m13, r, ret0 m40, s22, a22, c, -List.any_eq_true]
theorem beats1_spec (x : Bool) (l : List Claim) (z c : Int) (hc : CaseOk l) (h0 : 0 ≤ z) (h1 : z.toNat < l.length) :
  pureCall E.P (L E) 42 [.int .i64 z, cptr (lst x (l.map Claim.val)), cptr (.int .i64 c)] = some (.bool (memI (getL (atts l) z) c)) := by
 rw [getL_at h1, pureCall_fn F42 rfl]
 obtain ⟨hk, ha⟩ := hc l[z.toNat] (List.getElem_mem h1)
 have ci := case_idx (x := x) h0 h1
 generalize l[z.toNat] = d at *
 have cs := contains_spec d.k d.att c hk ha
 simp -implicitDefEqProofs [r42, p42, ci, Claim.val, Claim.cells, ret0 m43, cs]
theorem beats_spec (x : Bool) (l : List Claim) (k : Option Bool) (S : List Int) (c : Int) (hc : CaseOk l) (hk : IOk k S) (hS : S.length ≤ maxLen) (hin : ∀ z ∈ S, 0 ≤ z ∧ z.toNat < l.length) :
  pureCall E.P (L E) 32 [lst x (l.map Claim.val), ilist k S, .int .i64 c] = some (.bool (beatsB (atts l) S c)) := by
 have cf := containsF_spec k S 42 [cptr (lst x (l.map Claim.val)), cptr (.int .i64 c)] _ hk m42 rfl rfl (fun h => rfl) (fun z hz => beats1_spec x l z c hc (hin z hz).1 (hin z hz).2) hS
 rw [pureCall_fn F32 rfl]
 unfold beatsB
 simp -implicitDefEqProofs [r32, p32, ret0 m40, s22, a22, s3, a3, cf, -List.any_eq_true]
end Go.Proofs.Ytbadgapficfbpaa.Bm
namespace Go.Proofs.Ytbadgapficfbpaa.Bm
open Go Go.RowKit
def gcells : List (List Int) → Nat → List Value
 | [], _ => []
 | g :: G, b => .slice (some ⟨b, 0, some g.length⟩) g.length g.length :: gcells G (b + 1)
def grows (G : List (List Int)) : List AObj := G.map fun g => .cells 3 (g.map (.int .i64)) 1
section
variable {G : List (List Int)} {b k n : Nat} {g : List Int}
theorem gcells_len : ∀ {G : List (List Int)} {b : Nat}, (gcells G b).length = G.length
 | [], _ => rfl
 | g :: G, b => by simp [gcells, gcells_len (G := G)]
theorem grows_len : (grows G).length = G.length := by simp [grows]
theorem gcells_get : ∀ {G : List (List Int)} {b k : Nat}, G[k]? = some g → (gcells G b)[k]? = some (.slice (some ⟨b + k, 0, some g.length⟩) g.length g.length)
 | [], _, _, h => by simp at h
 | x :: G, b, 0, h => by simp at h; subst h; rfl
 | x :: G, b, k + 1, h => by
  have h : G[k]? = some g := h
  show (gcells G (b + 1))[k]? = _
  rw [gcells_get h, show b + 1 + k = b + (k + 1) by omega]
theorem gcells_mod (f : List Int → List Int) : ∀ {G : List (List Int)} {b k : Nat}, G[k]? = some g → gcells (G.modify k f) b = (gcells G b).set k (.slice (some ⟨b + k, 0, some (f g).length⟩) (f g).length (f g).length)
 | [], _, _, h => by simp at h
 | x :: G, b, 0, h => by simp at h; subst h; rfl
 | x :: G, b, k + 1, h => by
  have h : G[k]? = some g := h
  rw [List.modify_succ_cons]
  show _ :: gcells (G.modify k f) (b + 1) = _ :: (gcells G (b + 1)).set k _
  rw [gcells_mod f h, show b + 1 + k = b + (k + 1) by omega]
theorem grows_get (h : G[k]? = some g) : (grows G)[k]? = some (.cells 3 (g.map (.int .i64)) 1) := by simp [grows, h]
theorem grows_mod (f : List Int → List Int) : ∀ {G : List (List Int)} {k : Nat}, G[k]? = some g → grows (G.modify k f) = (grows G).set k (.cells 3 ((f g).map (.int .i64)) 1)
 | [], _, h => by simp at h
 | x :: G, 0, h => by simp at h; subst h; rfl
 | x :: G, k + 1, h => by
  have h : G[k]? = some g := h
  rw [List.modify_succ_cons]
  show _ :: grows (G.modify k f) = _ :: (grows G).set k _
  rw [grows_mod f h]
theorem gcells_below : ∀ {G : List (List Int)} {b : Nat}, b + G.length ≤ n → (gcells G b).all (below 8 n) = true
 | [], _, _ => rfl
 | g :: G, b, h => by
  simp only [List.length_cons] at h
  simp only [gcells, List.all_cons, bel_slice, Bool.and_eq_true, decide_eq_true_eq]
  exact ⟨by omega, gcells_below (by omega)⟩
theorem grows_below : (grows G).all (belowO n) = true := by
 simp [grows, List.all_eq_true, belO_cells]
theorem gcells_nil : ∀ {m b : Nat}, nilRows b m = gcells (List.replicate m []) b
 | 0, _ => rfl
 | m + 1, b => by
  rw [List.replicate_succ]
  show _ :: nilRows (b + 1) m = _ :: gcells _ (b + 1)
  rw [gcells_nil]; rfl
theorem grows_nil {m : Nat} : List.replicate m (AObj.cells 3 [] 1) = grows (List.replicate m []) := by simp [grows]
end
section
variable {a x y : AObj} {r : List AObj} {vs : List Value} {n k : Nat}
theorem get_one {l : Heap} : (a :: l)[1 + k]? = l[k]? := by rw [Nat.add_comm, List.getElem?_cons_succ]
theorem set_one {l : Heap} : (a :: l).set (1 + k) x = a :: l.set k x := by rw [Nat.add_comm, List.set_cons_succ]
theorem trim_g1 (hn : r.length + 1 = n) (h1 : vs.all (below 8 n) = true) (h2 : belowO n a = true) (h3 : r.all (belowO n) = true) : trim n vs (a :: (r ++ [x])) = a :: r := by
 rw [trim_cut (by simp; omega) h1 (by
  have : (a :: (r ++ [x])).take n = a :: r := by rw [← hn]; simp
  rw [this, List.all_cons, h2, h3]; rfl), ← hn]
 simp
theorem trim_g2 (hn : r.length + 2 = n) (h1 : vs.all (below 8 n) = true) (h2 : belowO n a = true) (h3 : r.all (belowO n) = true) (h4 : belowO n x = true) : trim n vs (a :: (r ++ [x, y])) = a :: (r ++ [x]) := by
 have e : (a :: (r ++ [x, y])).take n = a :: (r ++ [x]) := by
  rw [← hn, List.take_succ_cons, List.take_append, List.take_of_length_le (by omega)]
  simp
 rw [trim_cut (by simp; omega) h1 (by rw [e, List.all_cons, List.all_append, h2, h3]; simp [h4]), e]
end
theorem addA_len (i : Nat) (G : List (List Int)) (k : Int) : (addA i G k).length = G.length := by simp [addA]
theorem addA_bound {i n : Nat} {G : List (List Int)} {k : Int} (h : ∀ g ∈ G, g.length ≤ n) : ∀ g ∈ addA i G k, g.length ≤ n + 1 := by
 intro g hg
 unfold addA at hg
 obtain ⟨j, hj, rfl⟩ := List.mem_iff_getElem.1 hg
 simp only [List.getElem_modify]
 have hj' : j < G.length := by simpa using hj
 have := h G[j] (List.getElem_mem hj')
 split
 ·simp; omega
 ·omega
theorem ascB_all {n : Nat} : ∀ {l : List Int} {last : Int}, ascB n last l = true → ∀ k ∈ l, last < k ∧ k < n
 | [], _, _, _, h => by cases h
 | a :: l, last, h, k, hk => by
  simp only [ascB, Bool.and_eq_true, decide_eq_true_eq] at h
  rcases List.mem_cons.1 hk with rfl | hk
  ·exact h.1
  ·have := ascB_all h.2 k hk
   omega
theorem ascB_len {n : Nat} : ∀ {l : List Int} {last : Int}, ascB n last l = true → -1 ≤ last → last < n → (l.length : Int) ≤ n - 1 - last
 | [], last, _, _, h => by simp; omega
 | a :: l, last, h, h0, h1 => by
  simp only [ascB, Bool.and_eq_true, decide_eq_true_eq] at h
  have := ascB_len h.2 (by omega) h.1.2
  simp; omega
theorem right_at {A : List (List Int)} (h : rightB A = true) : A.length ≤ 300 ∧ ∀ a ∈ A, (∀ k ∈ a, 0 ≤ k ∧ k < A.length) ∧ a.length ≤ 300 := by
 unfold rightB at h
 simp only [Bool.and_eq_true, decide_eq_true_eq, List.all_eq_true] at h
 refine ⟨h.2, fun a ha => ⟨fun k hk => ?_, ?_⟩⟩
 ·have := ascB_all (h.1 a ha) k hk
  omega
 ·have h0 := h.1 a ha
  by_cases hn : A.length = 0
  ·have : A = [] := List.eq_nil_of_length_eq_zero hn
   subst this; cases ha
  ·have := ascB_len h0 (by omega) (by omega)
   omega
theorem graphG_len : ∀ (A : List (List Int)) (i : Nat) (G : List (List Int)), (graphG A i G).length = G.length
 | [], _, _ => rfl
 | a :: A, i, G => by
  rw [graphG, graphG_len A]
  have : ∀ (a : List Int) (G : List (List Int)), (a.foldl (addA i) G).length = G.length := by
   intro a
   induction a with
   | nil => intro G; rfl
   | cons k a ih => intro G; rw [List.foldl_cons, ih, addA_len]
  exact this a G
theorem graphF_len (A : List (List Int)) : (graphF A).length = A.length := by simp [graphF, graphG_len]
theorem sRow : szOf E.P 23 = some 1 := by kernel_rfl
theorem aRow : aggT E.P 23 = some false := by kernel_rfl
def gH (G : List (List Int)) (t : List AObj) : Heap := .cells 23 (gcells G 1) 0 :: (grows G ++ t)
def rowT (l : List Int) : Value := lst false (l.map (.int .i64))
theorem reify_graph {m : Nat} {h : Heap} : ∀ (G : List (List Int)) (b : Nat), (∀ k g, G[k]? = some g → h[b + k]? = some (.cells 3 (g.map (.int .i64)) 1)) → mapR E.P (m + 1) h (gcells G b) = some (G.map rowT)
 | [], _, _ => rfl
 | g :: G, b, hh => by
  have ih := reify_graph (m := m) G (b + 1) fun k g hk => by have := hh (k + 1) g hk; rw [← this]; congr 1; omega
  have h0 := hh 0 g rfl
  rw [Nat.add_zero] at h0
  simp only [gcells, mapR_cons, ih, List.map_cons, reify_slice]
  by_cases hg : g = []
  ·subst hg; rfl
  ·have : ¬ g.length = 0 := fun e => hg (List.eq_nil_of_length_eq_zero e)
   simp -implicitDefEqProofs only [this, if_false, h0, reifyS_cells, s3, Option.bind_some, stampOk, List.length_map, beq_self_eq_true, Nat.zero_add, Nat.mul_one, Nat.le_refl, and_self, Nat.one_pos, if_true, List.drop_zero]
   rw [List.take_of_length_le (by simp), reifyC_set (by simp [List.all_eq_true])]
   simp -implicitDefEqProofs only [Option.bind_some, elems_one a3 s3, Option.map_some, rowT]
set_option maxRecDepth 20000 in
theorem graph_spec (x : Bool) (l : List Claim) (hc : CaseOk l) (hr : rightB (atts l) = true) : pureCall E.P (L E) 27 [lst x (l.map Claim.val)] = some (lst false ((graphF (atts l)).map rowT)) := by
 obtain ⟨hn, hat⟩ := right_at hr
 rw [atts_len] at hn hat
 rw [pureCall_fn F27 rfl]
 have nw := fun σ => newsK_row (σ := σ) (P := E.P) (lo := 0) (h := [.cells 23 (List.replicate l.length (.slice none 0 0)) 0]) (t := 3) (b := 0) (n := 0) (m := l.length) (len := l.length) (cap := l.length) (sp := none) (off := 0) rfl s3 (Nat.le_refl _)
 have mk := make_one (h := []) (el := ⟨23, 1, 24, .slice none 0 0, ⟨some false, some 1⟩⟩) (n := l.length) (k := .i64) (k' := .i64) rfl rfl (by omega) (by decide)
 simp -implicitDefEqProofs at mk nw
 simp -implicitDefEqProofs [r27, p27, mk, prep_news, nw, gcells_nil, grows_nil]
 rw [LL_for (γ := List (List Int)) l (List.replicate l.length []) (fun i _ => [(13, .int .i64 i)]) (fun _ G => gH G [])
  (fun i rest G => (.exit 0, [(13, undef)], gH (graphG (atts rest) i G) [])) (fun i G => G.length = l.length ∧ ∀ g ∈ G, g.length ≤ i * 300) (by omega) ⟨by simp, by simp⟩]
 ·simp -implicitDefEqProofs [k27_3]
  have hGd : graphG (atts l) 0 (List.replicate l.length []) = graphF (atts l) := by simp [graphF, atts_len]
  have hG : (graphF (atts l)).length = l.length := by rw [graphF_len, atts_len]
  rw [hGd]
  by_cases h0 : l = []
  ·subst h0; rfl
  ·have h0' : l.length ≠ 0 := fun e => h0 (List.eq_nil_of_length_eq_zero e)
   rw [if_neg h0]
   have rg := reify_graph (m := 6) (h := gH (graphF (atts l)) []) (graphF (atts l)) 1 fun k g hk => by
    unfold gH
    rw [get_one, List.append_nil]
    exact grows_get hk
   have hns : (gcells (graphF (atts l)) 1).all (settled 8) = false := by
    cases hq : graphF (atts l) with
    | nil => rw [hq] at hG; simp at hG; omega
    | cons g G => rfl
   have e : reifyC E.P 7 (gH (graphF (atts l)) []) (gcells (graphF (atts l)) 1) = some ((graphF (atts l)).map rowT) := by
    rw [reifyC_map hns]; exact rg
   have tk : ((gcells (graphF (atts l)) 1).drop 0).take (l.length * 1) = gcells (graphF (atts l)) 1 := by
    rw [List.drop_zero, Nat.mul_one, List.take_of_length_le (by rw [gcells_len]; omega)]
   show reifyS E.P 7 (gH (graphF (atts l)) []) (some (.cells 23 (gcells (graphF (atts l)) 1) 0)) ⟨0, 0, none⟩ l.length = _
   rw [reifyS_cells, sRow, Option.bind_some, if_pos ⟨rfl, Nat.one_pos, by rw [gcells_len]; simp; omega⟩]
   simp only [tk, e, Option.bind_some]
   rw [elems_one aRow sRow]; rfl
 ·simp -implicitDefEqProofs [k27_3]
 ·simp -implicitDefEqProofs [gH]
 ·intro nx i G hi _
  simp -implicitDefEqProofs [r27_3, k27_3, hi, gH, atts, graphG, trim_le]
 ·intro nx i c rest G hi hv hd hw ⟨hG1, hG2⟩ ih
  obtain ⟨hk, ha⟩ := hc c (hv ▸ List.getElem_mem hi)
  obtain ⟨hb, ha3⟩ := hat c.att (List.mem_map.2 ⟨c, hv ▸ List.getElem_mem hi, rfl⟩)
  unfold maxLen at ha
  have hG0 := hG1
  simp -implicitDefEqProofs [r27_3, k27_3, hi, case_idxN hi, hv, Claim.val, Claim.cells, il_len hk, gH]
  rw [LL_for (γ := List (List Int)) c.att G (fun j _ => [(21, .int .i64 j)]) (fun _ G => gH G [.cells 40 c.cells 0])
   (fun _ rest G => (.exit 2, [(21, undef)], gH (rest.foldl (addA i) G) [.cells 40 c.cells 0])) (fun j G => G.length = l.length ∧ ∀ g ∈ G, g.length ≤ i * 300 + j) ha ⟨hG1, fun g hg => by have := hG2 g hg; omega⟩]
  ·have hfl : ∀ (a : List Int) (G : List (List Int)), (a.foldl (addA i) G).length = G.length := by
    intro a
    induction a with
    | nil => intro G; rfl
    | cons k a ih => intro G; rw [List.foldl_cons, ih, addA_len]
   have hfb : ∀ (a : List Int) (G : List (List Int)) (m : Nat), (∀ g ∈ G, g.length ≤ m) → ∀ g ∈ a.foldl (addA i) G, g.length ≤ m + a.length := by
    intro a
    induction a with
    | nil => intro G m h g hg; exact h g hg
    | cons k a ih =>
     intro G m h g hg
     have := ih (addA i G k) (m + 1) (addA_bound h) g hg
     simp; omega
   have ih := ih (c.att.foldl (addA i) G) ⟨by rw [hfl, hG1], fun g hg => by have := hfb c.att G _ hG2 g hg; omega⟩
   have hfl := hfl c.att G
   have hgr : graphG (atts (c :: rest)) i G = graphG (atts rest) (i + 1) (c.att.foldl (addA i) G) := rfl
   simp only [hgr]
   generalize c.att.foldl (addA i) G = G2 at *
   have t1 := fun vs h1 => trim_g1 (a := .cells 23 (gcells G2 1) 0) (x := .cells 40 c.cells 0) (r := grows G2) (vs := vs) (n := G.length + 1) (by rw [grows_len, hfl]) h1 (gcells_below (by omega)) grows_below
   simp only [Claim.cells] at t1
   simp -implicitDefEqProofs [k27_3, gH] at ih
   simp -implicitDefEqProofs [k27_6, gH, grows_len, hw, Claim.cells, t1]
   exact ih
  ·simp -implicitDefEqProofs [k27_6]
  ·simp -implicitDefEqProofs [gH, Claim.cells]
  ·intro nx j G hj _
   simp -implicitDefEqProofs [r27_6, k27_6, hj, gH, trim_le]
  ·intro nx j v rest2 G hj hvj hdj hwj ⟨hG1, hG2⟩ ihj
   obtain ⟨q0, q1⟩ := hb v (hvj ▸ List.getElem_mem hj)
   have hkl : v.toNat < G.length := by omega
   have hg : G[v.toNat]? = some G[v.toNat] := List.getElem?_eq_getElem hkl
   have hgb := hG2 G[v.toNat] (List.getElem_mem hkl)
   obtain ⟨g, eg⟩ : ∃ g, G[v.toNat] = g := ⟨_, rfl⟩
   rw [eg] at hg hgb
   have hGG := hG0.trans hG1.symm
   have ihj := ihj (addA i G v) ⟨by rw [addA_len, hG1], fun x hx => by have := addA_bound hG2 x hx; omega⟩
   have m1 := gcells_mod (b := 1) (· ++ [(i : Int)]) hg
   have m2 := grows_mod (· ++ [(i : Int)]) hg
   have c1 := gcells_get (b := 1) hg
   have hbd : (g.length + 1) * 8 ≤ 140737488355328 := by omega
   have e1 : ∀ t, (grows G ++ t)[v.toNat]? = some (.cells 3 (g.map (.int .i64)) 1) := fun t => by rw [List.getElem?_append_left (by rw [grows_len]; exact hkl)]; exact grows_get hg
   have e2 : ∀ t y, (grows G ++ t).set v.toNat y = (grows G).set v.toNat y ++ t := fun t y => List.set_append_left _ _ (by rw [grows_len]; exact hkl)
   have e3 : ∀ a b, (grows G ++ [a, b])[G.length + 1]? = some b := fun a b => by rw [List.getElem?_append_right (by rw [grows_len]; omega), grows_len]; simp
   have e4 : ∀ u, splice (gcells G 1) v.toNat [u] = (gcells G 1).set v.toNat u := fun u => splice_one (by rw [gcells_len]; exact hkl)
   have e5 : v.toNat + 1 ≤ (gcells G 1).length := by rw [gcells_len]; exact hkl
   have hgG : v.toNat < (gcells G 1).length := by rw [gcells_len]; exact hkl
   have g1 := List.getElem_eq_iff hgG |>.2 c1
   simp -implicitDefEqProofs at m1 m2
   replace m1 : gcells (addA i G v) 1 = _ := m1
   replace m2 : grows (addA i G v) = _ := m2
   have t2 := fun vs y h1 => trim_g2 (a := .cells 23 (gcells (addA i G v) 1) 0) (x := .cells 40 c.cells 0) (y := y) (r := grows (addA i G v)) (vs := vs) (n := G.length + 1 + 1) (by rw [grows_len, addA_len]) h1 (gcells_below (by rw [addA_len]; omega)) grows_below (by simp [belO_cells, Claim.cells])
   simp only [Claim.cells, m1, m2] at t2
   simp -implicitDefEqProofs [k27_6, gH, m1, m2, Claim.cells, grows_len, hGG] at ihj
   simp -implicitDefEqProofs [r27_6, k27_6, gH, Claim.cells, hj, il_idxN hk hj, hvj, hwj, index_slice, q0, q1, hgG, g1, grows_len, get_one, set_one, build_one', Value.cells, e1, e2, e4, e5, appS_grown, hbd, -splice, hGG, t2]
   exact ihj
end Go.Proofs.Ytbadgapficfbpaa.Bm
namespace Go.Proofs.Ytbadgapficfbpaa.Bm
open Go Go.RowKit
def startF : List (List Int) → Nat → List Int × List Int → List Int × List Int
 | [], _, s => s
 | g :: G, i, s => startF G (i + 1) (s.1.set i g.length, if g = [] then s.2 ++ [(i : Int)] else s.2)
theorem startF_eq : ∀ (G : List (List Int)) (i : Nat) (L W : List Int), L.length = i + G.length → startF G i (L, W) = (L.take i ++ G.map (fun g => (g.length : Int)), W ++ wave0 G i)
 | [], i, L, W, h => by
  simp only [startF, wave0, List.map_nil, List.append_nil]
  rw [List.take_of_length_le (by simp at h; omega)]
 | g :: G, i, L, W, h => by
  have hi : i < L.length := by rw [h]; simp
  rw [startF, startF_eq G (i + 1) _ _ (by simp at h ⊢; omega)]
  congr 1
  ·rw [List.take_succ_eq_append_getElem (by simpa using hi), List.getElem_set_self, List.take_set_of_le (Nat.le_refl _)]
   simp
  ·rw [show wave0 (g :: G) i = if g = [] then (i : Int) :: wave0 G (i + 1) else wave0 G (i + 1) from rfl]
   split <;> simp
structure GInv (n m : Nat) (r : Int) (s : GS) : Prop where
 lab : s.lab.length = n
 rk : s.rk.length = n
 left : s.left.length = n
 wave : ∀ i ∈ s.wave, 0 ≤ i ∧ i.toNat < n ∧ getI s.lab i = 0
 wlen : s.wave.length ≤ 90000
 open_ : s.lab.count 0 < m
 round : r = 1 + 2 * (n + 1 - m)
 mle : m ≤ n + 1
 low : ∀ x ∈ s.left, -(((n + 1 - m) * 90000 : Nat) : Int) ≤ x ∧ x ≤ 100000
theorem count_set0 {L : List Int} {k : Nat} {v : Int} (hk : k < L.length) (h0 : L[k] = 0) (hv : v ≠ 0) : (L.set k v).count 0 + 1 = L.count 0 := by
 induction L generalizing k with
 | nil => simp at hk
 | cons a L ih =>
  cases k with
  | zero =>
   have ha : a = 0 := h0
   rw [List.set_cons_zero, List.count_cons, List.count_cons, ha]
   simp [hv]
  | succ k =>
   rw [List.set_cons_succ, List.count_cons, List.count_cons]
   have := ih (k := k) (by simpa using hk) (by simpa using h0)
   omega
theorem count_set_le {L : List Int} {k : Nat} {v : Int} (hv : v ≠ 0) : (L.set k v).count 0 ≤ L.count 0 := by
 induction L generalizing k with
 | nil => simp
 | cons a L ih =>
  cases k with
  | zero =>
   rw [List.set_cons_zero, List.count_cons, List.count_cons]
   simp [hv]
  | succ k =>
   rw [List.set_cons_succ, List.count_cons, List.count_cons]
   have := ih (k := k)
   omega
theorem getI_mem {L : List Int} {k : Int} (h1 : k.toNat < L.length) : getI L k ∈ L := by
 have : getI L k = L[k.toNat] := by simp [getI, h1]
 rw [this]; exact List.getElem_mem h1
theorem getI_eq {L : List Int} {k : Int} (h1 : k.toNat < L.length) : L[k.toNat] = getI L k := by
 simp [getI, h1]
theorem getI_set {L : List Int} {k j : Int} {v : Int} (h1 : k.toNat < L.length) : getI (L.set k.toNat v) j = if j.toNat = k.toNat then v else getI L j := by
 unfold getI
 simp only [List.getD_eq_getElem?_getD, List.getElem?_set]
 by_cases h : k.toNat = j.toNat
 ·simp [h, h ▸ h1]
 ·have : ¬ j.toNat = k.toNat := fun e => h e.symm
  simp [h, this]
theorem frz_int {h : Heap} {b : Nat} {W : List Int} (ho : h[b]? = some (.cells 3 (W.map (.int .i64)) 1)) : ∃ o, (∀ n, belowO n o = true) ∧
  freezeV E.P depth 0 h (.slice (some ⟨b, 0, some W.length⟩) W.length W.length) = some (lst false (W.map (.int .i64)), h.set b o) := by
 have fz := frz_one8 (P := E.P) (lo := 0) (h := h) (b := b) (k := W.length) (len := W.length) (cap := W.length) (t := 3) (l := W.map (.int .i64)) ho s3 a3 (Nat.zero_le _) (by simp) (by simp) (by simp [List.all_eq_true])
 rw [fz]
 by_cases hw : W.length = 0
 ·refine ⟨.cells 3 (W.map (.int .i64)) 1, fun n => by simp [belO_cells, List.all_eq_true], ?_⟩
  rw [if_pos hw]
  congr 2
  apply List.ext_getElem?
  intro i
  by_cases hb : b = i
  ·subst hb
   have hlt := (List.getElem?_eq_some_iff.1 ho).1
   rw [List.getElem?_set_self hlt, ho]
  ·rw [List.getElem?_set_ne hb]
 ·exact ⟨.dead, fun n => rfl, by rw [if_neg hw]⟩
theorem map_below {L : List Int} {n d : Nat} : (L.map (Value.int .i64)).all (below (d + 1) n) = true := by simp [List.all_eq_true]
theorem set_below {L : List Int} {k n d : Nat} {v : Int} : ((L.map (Value.int .i64)).set k (.int .i64 v)).all (below (d + 1) n) = true := by
 rw [← List.map_set]; exact map_below
def rowC (L : List Int) : AObj := .cells 3 (L.map (.int .i64)) 0
def rowG (L : List Int) : AObj := .cells 3 (L.map (.int .i64)) 1
theorem rowC_bel {n : Nat} {L : List Int} : belowO n (rowC L) = true := map_below
theorem rowG_bel {n : Nat} {L : List Int} : belowO n (rowG L) = true := map_below
def rowS_ (b : Nat) (L : List Int) : Value := .slice (some ⟨b, 0, some L.length⟩) L.length L.length
end Go.Proofs.Ytbadgapficfbpaa.Bm
