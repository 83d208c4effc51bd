/-
  Chapter 36: what Why's two inner functions do. Conditions: the lists are those of a case.
-/
import Derived.Test.YtbadgapficfbpaaC36i
import Derived.Test.YtbadgapficfbpaaC36w
namespace Go.Proofs.Ytbadgapficfbpaa.Bm
open Go Go.RowKit

section
variable {l : List Int} {G : List (List Int)} {z : Int} {e : TypeId}
theorem rowT_il : rowT l = ilist (some false) l := rfl
theorem rowT_idx (h0 : 0 ≤ z) (h1 : z.toNat < l.length) : indexAddrT (.sl e ⟨some false, some 1⟩) (rowT l) (.int .i64 z) = some (cptr (.int .i64 (getI l z))) := il_idx (k := some false) (fun h => by cases h) h0 h1
theorem rowT_idxN {i : Nat} (h1 : i < l.length) : indexAddrT (.sl e ⟨some false, some 1⟩) (rowT l) (.int .i64 (i : Int)) = some (cptr (.int .i64 l[i])) := il_idxN (k := some false) (fun h => by cases h) h1
theorem graphT_idx (h0 : 0 ≤ z) (h1 : z.toNat < G.length) : indexAddrT (.sl e ⟨some false, some 1⟩) (lst false (G.map rowT)) (.int .i64 z) = some (cptr (rowT (getL G z))) := by
  simp [h0, h1, getL]
  exact ⟨rfl, rfl⟩
end

set_option maxRecDepth 20000 in
theorem first_spec {G : List (List Int)} {Lb R : List Int} {n : Nat} {k : Int} (hG : ∀ i ∈ getL G k, 0 ≤ i ∧ i.toNat < n) (hL : Lb.length = n) (hR : R.length = n) (h0 : 0 ≤ k) (hk : k.toNat < G.length) (hlen : (getL G k).length ≤ maxLen) :
    pureCall E.P (L E) 36 [.int .i64 k, cptr (lst false (G.map rowT)), cptr (rowT Lb), cptr (rowT R)] = some (.int .i64 (firstF Lb R (getL G k))) := by
  unfold maxLen at hlen
  rw [pureCall_fn F36 rfl]
  have g1 := graphT_idx (e := 23) h0 hk
  have hlenT : ∀ h, lenT .sl h (rowT (getL G k)) = some (.int .i64 ((getL G k).length : Int)) := fun h => by unfold rowT; simp
  have fitT : ∀ l, fitsTT ⟨some false, some 1⟩ (rowT l) = true := fun l => rfl
  simp -implicitDefEqProofs [r36, p36, g1, fitT, hlenT]
  rw [LL_for (γ := Int) (getL G k) (-1) (fun i b => [(6, .int .i64 b), (14, .int .i64 i)]) (fun _ _ => []) (fun _ rest b => (.exit 0, [(6, .int .i64 (rest.foldl (firstS Lb R) b)), (14, undef)], [])) (fun _ b => b < 0 ∨ 0 ≤ b ∧ b.toNat < n) hlen (.inl (by decide))]
  · simp -implicitDefEqProofs [k36_3, firstF]
  · simp [k36_3]
  · rfl
  · intro nx i b hi _
    simp -implicitDefEqProofs [r36_3, k36_3, hi, trim_le]
  · intro nx i v rest b hi hv hd hw hb ih
    have hvm := hG v (hv ▸ List.getElem_mem hi)
    have f1 : ∀ z, 0 ≤ z → z.toNat < n → indexAddrT (.sl 3 ⟨some false, some 1⟩) (rowT Lb) (.int .i64 z) = some (cptr (.int .i64 (getI Lb z))) := fun z q0 q1 => rowT_idx q0 (hL ▸ q1)
    have f2 : ∀ z, 0 ≤ z → z.toNat < n → indexAddrT (.sl 3 ⟨some false, some 1⟩) (rowT R) (.int .i64 z) = some (cptr (.int .i64 (getI R z))) := fun z q0 q1 => rowT_idx q0 (hR ▸ q1)
    have ih1 := ih v (.inr hvm)
    have ih2 := ih b hb
    rw [List.foldl_cons]
    simp -implicitDefEqProofs [k36_3] at ih1 ih2
    by_cases q1 : getI Lb v = 1
    · by_cases q2 : b < 0
      · have hs : firstS Lb R b v = v := by unfold firstS; rw [if_pos ⟨q1, .inl q2⟩]
        rw [hs]
        simp -implicitDefEqProofs [r36_3, k36_3, hi, rowT_idxN hi, hv, hw, f1 v hvm.1 hvm.2, fitT, q1, q2, trim_le]
        exact ih1
      · have hb' : 0 ≤ b ∧ b.toNat < n := hb.resolve_left q2
        by_cases q3 : getI R v < getI R b
        · have hs : firstS Lb R b v = v := by unfold firstS; rw [if_pos ⟨q1, .inr q3⟩]
          rw [hs]
          simp -implicitDefEqProofs [r36_3, k36_3, hi, rowT_idxN hi, hv, hw, f1 v hvm.1 hvm.2, f2 v hvm.1 hvm.2, f2 b hb'.1 hb'.2, fitT, q1, q2, q3, trim_le]
          exact ih1
        · have hs : firstS Lb R b v = b := by unfold firstS; rw [if_neg (by rintro ⟨_, h | h⟩ <;> contradiction)]
          rw [hs]
          simp -implicitDefEqProofs [r36_3, k36_3, hi, rowT_idxN hi, hv, hw, f1 v hvm.1 hvm.2, f2 v hvm.1 hvm.2, f2 b hb'.1 hb'.2, fitT, q1, q2, q3, trim_le]
          exact ih2
    · have hs : firstS Lb R b v = b := by unfold firstS; rw [if_neg fun h => q1 h.1]
      rw [hs]
      simp -implicitDefEqProofs [r36_3, k36_3, hi, rowT_idxN hi, hv, hw, f1 v hvm.1 hvm.2, fitT, q1, trim_le]
      exact ih2

theorem s23 : szOf E.P 23 = some 1 := by kernel_rfl
theorem a23 : aggT E.P 23 = some false := by kernel_rfl
theorem s43 : szOf E.P 43 = some 1 := by kernel_rfl
theorem a43 : aggT E.P 43 = some false := by kernel_rfl
theorem ui3 : E.P.underlying 3 = some (.int .i64) := by kernel_rfl
theorem keyE : KeyEnc E.P 3 (Value.int .i64) := ⟨fun _ => rfl, fun _ => by simp [keyOk, ui3], fun a b => by simp [aKeyEq, ui3, Instr.sameNow]; rfl, fun _ => by simp [Instr.sameBits]⟩

def pA (b : Nat) : Value := .pointer (some ⟨b, 0, none⟩)
def setM (S : List Int) : List (Int × Value) := S.map fun z => (z, .bool true)
/-- Why's memory behind its first half. -/
def nH (G : List (List Int)) (Lb R : List Int) (S : List Int) : Heap := [.cells 23 [rowT Lb] 0, .cells 23 [rowT R] 0, .cells 43 [lst false (G.map rowT)] 0, .cells 50 [.func (.func 36) ⟨[]⟩ ⟨[pA 2, pA 0, pA 1]⟩] 0, mapB (Value.int .i64) (setM S), .cells 51 [.map (some 4)] 0, .cells 52 [.func (.func 37) ⟨[]⟩ ⟨[pA 5, pA 2, pA 6, pA 3]⟩] 0]

theorem setM_get {S : List Int} {i : Int} : aget (setM S) i = if S.contains i then some (.bool true) else none := by
  induction S with
  | nil => rfl
  | cons a S ih =>
    show (if a = i then some (Value.bool true) else aget (setM S) i) = _
    rw [ih, List.contains_cons]
    by_cases h : a = i
    · simp [h]
    · have h' : ¬ i = a := fun e => h e.symm
      simp [h, h']
theorem setM_add {S : List Int} {i : Int} (h : S.contains i = false) : aset (setM S) i (.bool true) = setM (S ++ [i]) := by
  induction S with
  | nil => rfl
  | cons a S ih =>
    rw [List.contains_cons, Bool.or_eq_false_iff] at h
    have h' : ¬ a = i := fun e => by simp [e] at h
    show (if a = i then _ else (a, Value.bool true) :: aset (setM S) i (.bool true)) = _
    rw [if_neg h', ih h.2]
    rfl

theorem needF_inv {G : List (List Int)} {Lb R : List Int} (good : Int → Prop) (hgood : ∀ i, good i → ∀ k ∈ getL G i, good (firstF Lb R (getL G k))) : ∀ (d : Nat) (S : List Int) (i : Int), S.Nodup → (∀ z ∈ S, good z) → good i →
    (needF G Lb R d S i).Nodup ∧ (∀ z ∈ needF G Lb R d S i, good z) ∧ S.length ≤ (needF G Lb R d S i).length
  | 0, S, i, h1, h2, _ => ⟨h1, h2, Nat.le_refl _⟩
  | d + 1, S, i, h1, h2, hi => by
    unfold needF
    split
    · exact ⟨h1, h2, Nat.le_refl _⟩
    · rename_i hm
      have hm : ¬ i ∈ S := fun h => hm (List.contains_iff_mem.2 h)
      have hS1 : (S ++ [i]).Nodup := by
        rw [List.nodup_append]
        refine ⟨h1, by simp, fun a ha b hb e => hm ?_⟩
        rw [List.mem_singleton.1 hb] at e
        exact e ▸ ha
      have hS2 : ∀ z ∈ S ++ [i], good z := fun z hz => by
        rcases List.mem_append.1 hz with hz | hz
        · exact h2 z hz
        · rw [List.mem_singleton.1 hz]; exact hi
      have key : ∀ (l : List Int) (T : List Int), (∀ k ∈ l, good (firstF Lb R (getL G k))) → T.Nodup → (∀ z ∈ T, good z) → (l.foldl (fun S k => needF G Lb R d S (firstF Lb R (getL G k))) T).Nodup ∧ (∀ z ∈ l.foldl (fun S k => needF G Lb R d S (firstF Lb R (getL G k))) T, good z) ∧ T.length ≤ (l.foldl (fun S k => needF G Lb R d S (firstF Lb R (getL G k))) T).length := by
        intro l
        induction l with
        | nil => intro T _ q1 q2; exact ⟨q1, q2, Nat.le_refl _⟩
        | cons k l ih =>
          intro T hl q1 q2
          obtain ⟨r1, r2, r3⟩ := needF_inv good hgood d T _ q1 q2 (hl k (by simp))
          obtain ⟨t1, t2, t3⟩ := ih _ (fun x hx => hl x (by simp [hx])) r1 r2
          exact ⟨t1, t2, Nat.le_trans r3 t3⟩
      obtain ⟨t1, t2, t3⟩ := key (getL G i) (S ++ [i]) (fun k hk => hgood i hi k hk) hS1 hS2
      exact ⟨t1, t2, Nat.le_trans (by simp) t3⟩

set_option maxRecDepth 20000 in
theorem need_spec {G : List (List Int)} {Lb R : List Int} {n : Nat} (good : Int → Prop) (hgood : ∀ i, good i → 0 ≤ i ∧ i.toNat < n ∧ ∀ k ∈ getL G i, 0 ≤ k ∧ k.toNat < n ∧ good (firstF Lb R (getL G k))) (hG : ∀ k i, i ∈ getL G k → 0 ≤ i ∧ i.toNat < n)
    (hn : G.length = n) (hL : Lb.length = n) (hR : R.length = n) (hlen : ∀ k, (getL G k).length ≤ maxLen) : ∀ (d : Nat) (S : List Int) (i : Int), S.Nodup → (∀ z ∈ S, good z) → n + 1 ≤ S.length + d → good i →
    L E 37 [.int .i64 i, pA 5, pA 2, pA 6, pA 3] (nH G Lb R S) 0 = some (.tuple #[], nH G Lb R (needF G Lb R d S i)) := by
  intro d
  induction d with
  | zero =>
    intro S i hS hSg hd hi
    have := List.Nodup.length_le_of_subset (l₂ := (List.range n).map Int.ofNat) hS fun z hz => by
      obtain ⟨q0, q1, _⟩ := hgood z (hSg z hz)
      exact List.mem_map.2 ⟨z.toNat, List.mem_range.2 q1, Int.toNat_of_nonneg q0⟩
    simp at this
    omega
  | succ d ih =>
    intro S i hS hSg hd hi
    rw [L_fn F37 rfl]
    obtain ⟨i0, i1, hik⟩ := hgood i hi
    by_cases hc : S.contains i = true
    · have hg : aget (setM S) i = some (.bool true) := by rw [setM_get, if_pos hc]
      have hm : i ∈ S := List.contains_iff_mem.1 hc
      have lk : lookupT E.P (some ⟨3, some (Value.bool false)⟩) (nH G Lb R S) (.map (some 4)) (.int .i64 i) false = some (.bool true) := lookup_some keyE rfl rfl hg
      unfold nH pA at lk
      simp -implicitDefEqProofs [r37, p37, nH, pA, needF, hm, lk]
    · have hc : S.contains i = false := by simpa using hc
      have hg : aget (setM S) i = none := by rw [setM_get, if_neg (by rw [hc]; decide)]
      have hm : ¬ i ∈ S := fun h => by rw [List.contains_iff_mem.2 h] at hc; cases hc
      have lk : lookupT E.P (some ⟨3, some (Value.bool false)⟩) (nH G Lb R S) (.map (some 4)) (.int .i64 i) false = some (.bool false) := lookup_none keyE rfl rfl hg
      have pk : mapPutT E.P (some ⟨3, some (Value.bool false)⟩) (nH G Lb R S) 0 (.map (some 4)) (.int .i64 i) (.bool true) = some (nH G Lb R (S ++ [i])) := by
        rw [put_map keyE (l := setM S) rfl (Nat.zero_le _), setM_add hc]; rfl
      have gi := graphT_idx (e := 23) (G := G) i0 (by omega)
      have hlenT : ∀ h, lenT .sl h (rowT (getL G i)) = some (.int .i64 ((getL G i).length : Int)) := fun h => by unfold rowT; simp
      have fitT : ∀ l, fitsTT ⟨some false, some 1⟩ (rowT l) = true := fun l => rfl
      unfold nH pA at lk pk
      have hS1 : (S ++ [i]).Nodup := by
        rw [List.nodup_append]
        refine ⟨hS, by simp, fun a ha b hb e => hm ?_⟩
        rw [List.mem_singleton.1 hb] at e
        exact e ▸ ha
      have hS2 : ∀ z ∈ S ++ [i], good z := fun z hz => by
        rcases List.mem_append.1 hz with hz | hz
        · exact hSg z hz
        · rw [List.mem_singleton.1 hz]; exact hi
      simp -implicitDefEqProofs [r37, p37, nH, pA, needF, hm, lk, pk, gi, fitT, hlenT]
      rw [LL_for (γ := List Int) (getL G i) (S ++ [i]) (fun j _ => [(18, .int .i64 j)]) (fun _ S => nH G Lb R S) (fun _ rest S => (.exit 0, [(18, undef)], nH G Lb R (rest.foldl (fun S k => needF G Lb R d S (firstF Lb R (getL G k))) S)))
        (fun _ S => S.Nodup ∧ (∀ z ∈ S, good z) ∧ n + 1 ≤ S.length + d) (hlen i) ⟨hS1, hS2, by simp; omega⟩]
      · simp -implicitDefEqProofs [k37_3, nH, pA]
      · simp [k37_3]
      · rfl
      · intro nx j S hj _
        simp -implicitDefEqProofs [r37_3, k37_3, nH, hj, trim_le]
      · intro nx j v rest S hj hv hd hw hS ih'
        have hvk := hik v (hv ▸ List.getElem_mem hj)
        have fs := first_spec (Lb := Lb) (R := R) (n := n) (k := v) (fun z hz => hG v z hz) hL hR hvk.1 (by omega) (hlen v)
        have nd := ih S _ hS.1 hS.2.1 hS.2.2 hvk.2.2
        obtain ⟨r1, r2, r3⟩ := needF_inv good (fun i hi k hk => ((hgood i hi).2.2 k hk).2.2) d S _ hS.1 hS.2.1 hvk.2.2
        have ih2 := ih' _ ⟨r1, r2, by omega⟩
        rw [List.foldl_cons]
        unfold nH pA at nd
        have rc : ∀ h l, reifyC E.P 7 h [rowT l] = some [rowT l] := fun h l => reifyC_set rfl
        simp -implicitDefEqProofs [k37_3, nH, pA] at ih2
        simp -implicitDefEqProofs [r37_3, k37_3, nH, pA, hj, rowT_idxN hj, hv, hw, ret0 m36, ret2 m37, fs, nd, trim_le, s23, a23, s43, a43, rc, wrapP]
        exact ih2
end Go.Proofs.Ytbadgapficfbpaa.Bm
