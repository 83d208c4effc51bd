/-
  Chapter 36: the small functions on lists and cases. Conditions: lists that are not too long.
-/
import Derived.Test.YtbadgapficfbpaaRc
namespace Go.Proofs.Ytbadgapficfbpaa.Bm
open Go Go.RowKit

/-! ### Lists of integers -/
section
variable {h : Heap} {k : Option Bool} {l : List Int} {z : Int} {e : TypeId}
theorem il_len (hk : IOk k l) : lenT .sl h (ilist k l) = some (.int .i64 l.length) := by
  cases k with
  | none => have := hk rfl; subst this; rfl
  | some b => simp [ilist]
theorem il_idx (hk : IOk k l) (h0 : 0 ≤ z) (h1 : z.toNat < l.length) : indexAddrT (.sl e ⟨some false, some 1⟩) (ilist k l) (.int .i64 z) = some (cptr (.int .i64 (getI l z))) := by
  cases k with
  | none => have := hk rfl; subst this; simp at h1
  | some b => simp [ilist, h0, h1, getI]
theorem il_idxN {i : Nat} (hk : IOk k l) (h1 : i < l.length) : indexAddrT (.sl e ⟨some false, some 1⟩) (ilist k l) (.int .i64 (i : Int)) = some (cptr (.int .i64 l[i])) := by
  rw [il_idx hk (by omega) (by simpa using h1)]; simp [getI, h1]
theorem getI_nat {i : Nat} (h1 : i < l.length) : getI l (i : Int) = l[i] := by simp [getI, h1]
theorem il_one : one (ilist k l) = true := by cases k <;> rfl
theorem il_fits {sz : Option Nat} : fitsTT ⟨some false, sz⟩ (ilist k l) = true := by cases k <;> rfl
theorem il_set {n : Nat} : settled (n + 1) (ilist k l) = true := by cases k <;> rfl
theorem il_bel {d n : Nat} : below (d + 1) n (ilist k l) = true := by cases k <;> rfl
theorem il_reify {P : Program} {n : Nat} : reify P (n + 1) h (ilist k l) = some (ilist k l) := by cases k <;> rfl
theorem il_reifyR {P : Program} : reifyR P h (ilist k l) = some (ilist k l) := by cases k <;> rfl
theorem il_cells1 : cellsL (ilist k l) = [ilist k l] := by cases k <;> rfl
theorem il_cells {s : Nat} (hs : s = 1) (hk : IOk k l) : sliceCells h s (ilist k l) = some (l.map (.int .i64), l.length) := by
  subst hs
  cases k with
  | none => have := hk rfl; subst this; rfl
  | some b =>
    rw [ilist, cells_lst (by simp [List.all_eq_true])]
    have : ∀ l : List Int, (l.map (Value.int .i64)).flatMap cellsL = l.map (Value.int .i64) := by
      intro l
      induction l with
      | nil => rfl
      | cons a l ih => simp only [List.map_cons, List.flatMap_cons, ih]; rfl
    rw [this, List.length_map]
theorem il_cellsOf : cellsOf (ilist k l) = some [ilist k l] := by cases k <;> rfl
theorem iok_some {b : Bool} : IOk (some b) l := fun h => by cases h
end
attribute [simp] il_one il_fits il_set il_bel il_reify il_reifyR il_cells1 il_cellsOf

/-! ### A case -/
section
variable {x : Bool} {l : List Claim} {z : Int}
theorem case_idx (h0 : 0 ≤ z) (h1 : z.toNat < l.length) : indexAddrT (.sl 40 ⟨some true, some 6⟩) (lst x (l.map Claim.val)) (.int .i64 z) = some (cptr l[z.toNat].val) := by
  simp [h0, h1, Claim.val, Claim.cells]
theorem case_idxN {i : Nat} (h1 : i < l.length) : indexAddrT (.sl 40 ⟨some true, some 6⟩) (lst x (l.map Claim.val)) (.int .i64 (i : Int)) = some (cptr l[i].val) := by
  simp [h1, Claim.val, Claim.cells]
end

def eqB (a b : List Int) : Bool := decide (a = b)
theorem eqB_cons {a b : Int} {x y : List Int} : eqB (a :: x) (b :: y) = (decide (a = b) && eqB x y) := by
  unfold eqB; simp only [List.cons.injEq, Bool.decide_and]

theorem ints_spec (k m : Option Bool) (l r : List Int) (hk : IOk k l) (hm : IOk m r) (hl : l.length ≤ maxLen) : pureCall E.P (L E) 12 [ilist k l, ilist m r] = some (.bool (decide (l = r))) := by
  unfold maxLen at hl
  rw [pureCall_fn F12 rfl]
  simp -implicitDefEqProofs [r12, p12, il_len hk, il_len hm]
  by_cases hlen : l.length = r.length
  · simp -implicitDefEqProofs [hlen]
    rw [LL_for (γ := Unit) l () (fun i _ => [(5, .int .i64 i)]) (fun _ _ => []) (fun i rest _ => if eqB rest (r.drop i) then (.exit 0, [(5, undef)], []) else (.ret, [(4, .bool false), (5, undef)], [])) (fun _ _ => True) hl trivial]
    · cases h : eqB l r
      · have : ¬ l = r := of_decide_eq_false h
        simp [this, k12_4, h]
      · have : l = r := of_decide_eq_true h
        simp [this, k12_4, eqB]
    · simp [k12_4]
    · rfl
    · intro nx i c hi _
      have hd0 : eqB [] (r.drop i) = true := by rw [List.drop_eq_nil_of_le (by omega)]; rfl
      rw [hd0]
      simp -implicitDefEqProofs [r12_4, k12_4, il_len hk, hi, hlen, trim_le]
    · intro nx i v rest c hi hv hd hw _ ih
      have ih := ih () trivial
      have hi' : i < r.length := by omega
      have hi2 : ((i : Int) < r.length) := by omega
      have hrd : r.drop i = r[i] :: r.drop (i + 1) := List.drop_eq_getElem_cons hi'
      rw [hrd, eqB_cons]
      simp -implicitDefEqProofs [k12_4] at ih
      by_cases he : v = r[i]
      · simp -implicitDefEqProofs [r12_4, k12_4, il_len hk, hi', hlen, il_idxN hk hi, il_idxN hm hi', hv, hw, he, trim_le]
        exact ih
      · simp -implicitDefEqProofs [r12_4, k12_4, il_len hk, hi', hlen, il_idxN hk hi, il_idxN hm hi', hv, he, trim_le]
  · have : ¬ l = r := fun e => hlen (by rw [e])
    have hlen' : ¬ ((l.length : Int) = r.length) := by omega
    simp -implicitDefEqProofs [hlen', this]

def memI (l : List Int) (s : Int) : Bool := l.any fun z => decide (z = s)
theorem memI_mem {l : List Int} {z : Int} : memI l z = true ↔ z ∈ l := by
  unfold memI
  simp [List.any_eq_true]

theorem member_spec (k : Option Bool) (l : List Int) (s : Int) (hk : IOk k l) (hl : l.length ≤ maxLen) : pureCall E.P (L E) 24 [ilist k l, .int .i64 s] = some (.bool (memI l s)) := by
  unfold maxLen at hl
  rw [pureCall_fn F24 rfl]
  simp -implicitDefEqProofs [r24, p24]
  rw [LL_for (γ := Unit) l () (fun i _ => [(5, .int .i64 i)]) (fun _ _ => []) (fun _ rest _ => if memI rest s then (.ret, [(4, .bool true), (5, undef)], []) else (.exit 0, [(5, undef)], [])) (fun _ _ => True) hl trivial]
  · cases h : memI l s <;> simp [k24_2]
  · simp [k24_2]
  · rfl
  · intro nx i c hi _
    simp -implicitDefEqProofs [r24_2, k24_2, il_len hk, hi, trim_le, memI]
  · intro nx i v rest c hi hv hd hw _ ih
    have ih := ih () trivial
    have hm : memI (v :: rest) s = (decide (v = s) || memI rest s) := rfl
    simp -implicitDefEqProofs [k24_2] at ih
    rw [hm]
    by_cases he : v = s
    · simp -implicitDefEqProofs [r24_2, k24_2, il_len hk, hi, il_idxN hk hi, hv, he, trim_le]
    · simp -implicitDefEqProofs [r24_2, k24_2, il_len hk, hi, il_idxN hk hi, hv, hw, he, trim_le]
      exact ih

theorem right_spec (x : Bool) (l : List Claim) (hc : CaseOk l) (hl : l.length ≤ maxLen) : pureCall E.P (L E) 13 [lst x (l.map Claim.val)] = some (.bool (rightB (atts l))) := by
  unfold maxLen at hl
  rw [pureCall_fn F13 rfl]
  simp -implicitDefEqProofs [r13, p13]
  rw [LL_for (γ := Unit) l () (fun i _ => [(10, .int .i64 i)]) (fun _ _ => []) (fun _ rest _ => if (atts rest).all (ascB l.length (-1)) then (.exit 0, [(10, undef)], []) else (.ret, [(2, .bool false), (10, undef)], [])) (fun _ _ => True) hl trivial]
  · unfold rightB
    have e : (atts l).length = l.length := by simp [atts]
    rw [e]
    cases h : (atts l).all (ascB l.length (-1))
    · simp [k13_2]
    · simp -implicitDefEqProofs [k13_2]
      omega
  · simp [k13_2]
  · rfl
  · intro nx i c hi _
    simp -implicitDefEqProofs [r13_2, k13_2, hi, trim_le, atts]
  · intro nx i c rest _ hi hv hd hw _ ih
    have ih := ih () trivial
    have hm : (atts (c :: rest)).all (ascB l.length (-1)) = (ascB l.length (-1) c.att && (atts rest).all (ascB l.length (-1))) := rfl
    simp -implicitDefEqProofs [k13_2, -List.all_eq_true] at ih
    obtain ⟨hk, ha⟩ := hc c (hv ▸ List.getElem_mem hi)
    unfold maxLen at ha
    rw [hm]
    simp -implicitDefEqProofs [r13_2, k13_2, hi, case_idxN hi, hv, Claim.val, Claim.cells, il_len hk, -List.all_eq_true]
    rw [LL_for (γ := Int) c.att (-1) (fun i last => [(5, .int .i64 last), (17, .int .i64 i)]) (fun _ _ => [.cells 40 c.cells 0]) (fun _ rest last => if ascB l.length last rest then (.exit 2, [(17, undef), (5, undef)], [.cells 40 c.cells 0]) else (.ret, [(2, .bool false), (17, undef), (5, undef)], [.cells 40 c.cells 0])) (fun _ _ => True) ha trivial]
    · cases hb : ascB l.length (-1) c.att
      · simp -implicitDefEqProofs [k13_6, Claim.cells, trim_cut, -List.all_eq_true]
      · simp -implicitDefEqProofs [k13_6, Claim.cells, hw, trim_cut, -List.all_eq_true]
        exact ih
    · simp -implicitDefEqProofs [k13_6]
    · simp -implicitDefEqProofs [Claim.cells]
    · intro nx j last hj _
      simp -implicitDefEqProofs [r13_6, k13_6, hj, ascB, trim_le]
    · intro nx j v rest' last hj hvj hdj hwj _ ihj
      have ihj := ihj v trivial
      have ha : ascB l.length last (v :: rest') = (decide (last < v) && decide (v < l.length) && ascB l.length v rest') := rfl
      simp -implicitDefEqProofs [k13_6, Claim.cells] at ihj
      rw [ha]
      by_cases q1 : last < v
      · have q1' : ¬ v ≤ last := by omega
        by_cases q2 : v < l.length
        · have q2' : ¬ (l.length : Int) ≤ v := by omega
          simp -implicitDefEqProofs [r13_6, k13_6, Claim.cells, hj, il_idxN hk hj, hvj, hwj, q1, q1', q2, q2', trim_le]
          exact ihj
        · have q2' : (l.length : Int) ≤ v := by omega
          simp -implicitDefEqProofs [r13_6, k13_6, Claim.cells, hj, il_idxN hk hj, hvj, q1, q1', q2, q2', trim_le]
      · have q1' : v ≤ last := by omega
        simp -implicitDefEqProofs [r13_6, k13_6, Claim.cells, hj, il_idxN hk hj, hvj, q1, q1', trim_le]

end Go.Proofs.Ytbadgapficfbpaa.Bm
