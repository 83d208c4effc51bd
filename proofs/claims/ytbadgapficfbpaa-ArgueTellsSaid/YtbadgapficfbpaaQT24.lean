/-
 Chapter 36, plain: reasons gathered in breadth are the reasons that the program finds. Conditions: the case is right. No program in sight.
-/
import Derived.Test.YtbadgapficfbpaaQT23
import Derived.Test.YtbadgapficfbpaaQT21
import Derived.Test.YtbadgapficfbpaaQT22
namespace Go.Proofs.Ytbadgapficfbpaa.Bm
open Go Go.RowKit
theorem many_zero {L l : List Int} {v : Int} : decide (manyF L l v = 0) = !l.any fun k => decide (getI L k = v) := by
 unfold manyF
 rw [Bool.eq_iff_iff, decide_eq_true_eq, List.countP_eq_zero]
 simp
theorem many_some {L l : List Int} {v : Int} : decide (0 < manyF L l v) = l.any fun k => decide (getI L k = v) := by
 rw [Bool.eq_iff_iff, decide_eq_true_eq, many_pos]
 simp
def holdB (L R : List Int) (i : Int) (g : List Int) : Bool :=
 if getI L i = 1 then g.all (fun k => decide (getI L k = 2) && decide (getI R k < getI R i)) && decide (1 ≤ getI R i)
 else if getI L i = 2 then g.any (fun k => decide (getI L k = 1) && decide (1 ≤ getI R k) && decide (getI R k < getI R i))
 else decide (getI L i = 0) && decide (getI R i = 0) && decide (manyF L g 1 = 0) && decide (0 < manyF L g 0)
theorem hold_chk {L R : List Int} {i : Int} {g : List Int} : holdB L R i g = chkAt L R i g := by
 unfold holdB chkAt
 rw [chk_fold]
 simp only [Bool.false_or, Bool.true_and]
 by_cases h1 : getI L i = 1
 ·rw [if_pos h1, if_pos h1, Bool.and_comm]
 rw [if_neg h1, if_neg h1]
 by_cases h2 : getI L i = 2
 ·rw [if_pos h2, if_pos h2]
 rw [if_neg h2, if_neg h2]
 by_cases h3 : getI L i = 0
 ·rw [if_pos h3, decide_eq_true h3, Bool.true_and, many_zero, many_some]
 ·rw [if_neg h3, decide_eq_false h3, Bool.false_and, Bool.false_and, Bool.false_and]
set_option maxHeartbeats 4000000 in
theorem holdsR_spec {k1 k2 : Option Bool} {Lb Rk g : List Int} {i n : Nat} (h1 : IOk k1 Lb) (h2 : IOk k2 Rk) (hL : Lb.length = n) (hR : Rk.length = n) (hi : i < n) (hg : ∀ k ∈ g, 0 ≤ k ∧ k.toNat < n) (hgl : g.length ≤ maxLen) :
  pureCall E.P (L E) 30 [ilist k1 Lb, ilist k2 Rk, rowT g, .int .i64 (i : Int)] = some (.bool (holdB Lb Rk (i : Int) g)) := by
 have lg : ∀ H, lenT .sl H (rowT g) = some (.int .i64 g.length) := fun H => il_len (k := some false) (l := g) iok_some
 have ig := fun (j : Nat) (hj : j < g.length) => rowT_idxN (e := 3) (l := g) hj
 have iL := fun (z : Int) (h0 : 0 ≤ z) (hz : z.toNat < n) => il_idx (e := 3) h1 h0 (show z.toNat < Lb.length by omega)
 have iR := fun (z : Int) (h0 : 0 ≤ z) (hz : z.toNat < n) => il_idx (e := 3) h2 h0 (show z.toNat < Rk.length by omega)
 have iLi := iL (i : Int) (by omega) (by simpa using hi)
 have iRi := iR (i : Int) (by omega) (by simpa using hi)
 have m1 := fun v lo st h => manyR_call (kL := k1) (Lb := Lb) (k := some false) (l := g) (v := v) h1 iok_some hgl (fun k hk => by rw [hL]; exact hg k hk) (lo := lo) (st := st) (h := h)
 have hap : ilist (some false) g = rowT g := rfl
 rw [hap] at m1
 unfold maxLen at hgl
 rw [pureCall_fn F30 rfl]
 generalize ilist k1 Lb = VL at *
 generalize ilist k2 Rk = VR at *
 generalize rowT g = VG at *
 unfold holdB
 obtain ⟨Li, hLi⟩ : ∃ z, z = getI Lb (i : Int) := ⟨_, rfl⟩
 obtain ⟨Ri, hRi⟩ : ∃ z, z = getI Rk (i : Int) := ⟨_, rfl⟩
 rw [← hLi] at iLi ⊢
 rw [← hRi] at iRi ⊢
 by_cases z1 : Li = 1
 ·subst z1
  rw [if_pos rfl]
  obtain ⟨Q, hQ⟩ : ∃ Q, Q = g.all fun k => decide (getI Lb k = 2) && decide (getI Rk k < Ri) := ⟨_, rfl⟩
  rw [← hQ]
  simp -implicitDefEqProofs [r30, p30, iLi]
  rw [LL_for (γ := Unit) g () (fun j _ => [(9, .int .i64 (j : Int))]) (fun _ _ => []) (fun _ rest _ => if (rest.all fun k => decide (getI Lb k = 2) && decide (getI Rk k < Ri)) = true then (.exit 0, [(9, undef)], []) else (.ret, [(8, .bool false), (9, undef)], [])) (fun _ _ => True) hgl trivial]
  ·rw [← hQ]
   cases Q
   ·rw [Bool.false_and]
    simp -implicitDefEqProofs [k30_3]
   ·rw [Bool.true_and]
    simp -implicitDefEqProofs [k30_3, iRi]
  ·simp -implicitDefEqProofs [k30_3]
  ·rfl
  ·intro nx j _ hj _
   rw [List.all_nil]
   simp -implicitDefEqProofs [r30_3, k30_3, lg, hj, trim_le]
  ·intro nx j v rest _ hj hv hd hw _ ih
   have ih := ih () trivial
   have hj2 : (j : Int) < (g.length : Int) := by omega
   have x1 := ig j hj
   rw [hv] at x1
   obtain ⟨v0, v1⟩ := hg v (by rw [← hv]; exact List.getElem_mem hj)
   have x2 := iL v v0 v1
   have x3 := iR v v0 v1
   have e2 : (((j + 1 : Nat) : Int)) = (j : Int) + 1 := by omega
   rw [e2] at ih
   rw [List.all_cons]
   generalize (rest.all fun k => decide (getI Lb k = 2) && decide (getI Rk k < Ri)) = rb at *
   simp -implicitDefEqProofs [k30_3] at ih
   generalize getI Lb v = a at *
   generalize getI Rk v = b at *
   by_cases q1 : a = 2
   ·rw [decide_eq_true q1, Bool.true_and]
    by_cases q2 : b < Ri
    ·have q2' : ¬ Ri ≤ b := by omega
     rw [decide_eq_true q2, Bool.true_and]
     simp -implicitDefEqProofs [r30_3, k30_3, lg, hj2, x1, x2, x3, iRi, q1, q2', hw, ih, trim_le]
    ·have q2' : Ri ≤ b := by omega
     rw [decide_eq_false q2, Bool.false_and]
     simp -implicitDefEqProofs [r30_3, k30_3, lg, hj2, x1, x2, x3, iRi, q1, q2', trim_le]
   ·rw [decide_eq_false q1, Bool.false_and, Bool.false_and]
    simp -implicitDefEqProofs [r30_3, k30_3, lg, hj2, x1, x2, q1, trim_le]
 by_cases z2 : Li = 2
 ·subst z2
  rw [if_neg z1, if_pos rfl]
  obtain ⟨Q, hQ⟩ : ∃ Q, Q = g.any fun k => decide (getI Lb k = 1) && decide (1 ≤ getI Rk k) && decide (getI Rk k < Ri) := ⟨_, rfl⟩
  rw [← hQ]
  simp -implicitDefEqProofs [r30, p30, iLi]
  rw [LL_for (γ := Unit) g () (fun j _ => [(10, .int .i64 (j : Int))]) (fun _ _ => []) (fun _ rest _ => if (rest.any fun k => decide (getI Lb k = 1) && decide (1 ≤ getI Rk k) && decide (getI Rk k < Ri)) = true then (.ret, [(8, .bool true), (10, undef)], []) else (.exit 2, [(10, undef)], [])) (fun _ _ => True) hgl trivial]
  ·rw [← hQ]
   cases Q
   ·simp -implicitDefEqProofs [k30_10]
   ·simp -implicitDefEqProofs [k30_10]
  ·simp -implicitDefEqProofs [k30_10]
  ·rfl
  ·intro nx j _ hj _
   rw [List.any_nil]
   simp -implicitDefEqProofs [r30_10, k30_10, lg, hj, trim_le]
  ·intro nx j v rest _ hj hv hd hw _ ih
   have ih := ih () trivial
   have hj2 : (j : Int) < (g.length : Int) := by omega
   have x1 := ig j hj
   rw [hv] at x1
   obtain ⟨v0, v1⟩ := hg v (by rw [← hv]; exact List.getElem_mem hj)
   have x2 := iL v v0 v1
   have x3 := iR v v0 v1
   have e2 : (((j + 1 : Nat) : Int)) = (j : Int) + 1 := by omega
   rw [e2] at ih
   rw [List.any_cons]
   generalize (rest.any fun k => decide (getI Lb k = 1) && decide (1 ≤ getI Rk k) && decide (getI Rk k < Ri)) = rb at *
   simp -implicitDefEqProofs [k30_10] at ih
   generalize getI Lb v = a at *
   generalize getI Rk v = b at *
   by_cases q1 : a = 1
   ·rw [decide_eq_true q1, Bool.true_and]
    by_cases q2 : 1 ≤ b
    ·rw [decide_eq_true q2, Bool.true_and]
     by_cases q3 : b < Ri
     ·rw [decide_eq_true q3, Bool.true_or]
      simp -implicitDefEqProofs [r30_10, k30_10, lg, hj2, x1, x2, x3, iRi, q1, q2, q3, trim_le]
     ·rw [decide_eq_false q3, Bool.false_or]
      simp -implicitDefEqProofs [r30_10, k30_10, lg, hj2, x1, x2, x3, iRi, q1, q2, q3, hw, ih, trim_le]
    ·rw [decide_eq_false q2, Bool.false_and, Bool.false_or]
     simp -implicitDefEqProofs [r30_10, k30_10, lg, hj2, x1, x2, x3, iRi, q1, q2, hw, ih, trim_le]
   ·rw [decide_eq_false q1, Bool.false_and, Bool.false_and, Bool.false_or]
    simp -implicitDefEqProofs [r30_10, k30_10, lg, hj2, x1, x2, q1, hw, ih, trim_le]
 rw [if_neg z1, if_neg z2]
 have ma := m1 1
 have mb := m1 0
 by_cases z0 : Li = 0
 ·subst z0
  rw [decide_eq_true rfl, Bool.true_and]
  by_cases r0 : Ri = 0
  ·subst r0
   rw [decide_eq_true rfl, Bool.true_and]
   by_cases c1 : manyF Lb g 1 = 0
   ·rw [c1] at ma
    rw [decide_eq_true c1, Bool.true_and]
    simp -implicitDefEqProofs [r30, p30, iLi, iRi, ma, mb]
   ·have c1' : ¬ ((manyF Lb g 1 : Nat) : Int) = 0 := by omega
    rw [decide_eq_false c1, Bool.false_and]
    simp -implicitDefEqProofs [r30, p30, iLi, iRi, ma, c1', c1]
  ·rw [decide_eq_false r0, Bool.false_and, Bool.false_and]
   simp -implicitDefEqProofs [r30, p30, iLi, iRi, r0]
 ·rw [decide_eq_false z0, Bool.false_and, Bool.false_and, Bool.false_and]
  simp -implicitDefEqProofs [r30, p30, iLi, z1, z2, z0]
theorem holdsR_call {k1 k2 : Option Bool} {Lb Rk g : List Int} {i n : Nat} (h1 : IOk k1 Lb) (h2 : IOk k2 Rk) (hL : Lb.length = n) (hR : Rk.length = n) (hi : i < n) (hg : ∀ k ∈ g, 0 ≤ k ∧ k.toNat < n) (hgl : g.length ≤ maxLen) {lo : Nat} {st : Bool} {h : Heap} :
  retCall E (L E) lo st 30 [ilist k1 Lb, ilist k2 Rk, rowT g, .int .i64 (i : Int)] h = some (.bool (chkAt Lb Rk (i : Int) g), h) := by
 have r1 : ∀ H, reify E.P 8 H (ilist k1 Lb) = some (ilist k1 Lb) := fun H => il_reify
 have r2 : ∀ H, reify E.P 8 H (ilist k2 Rk) = some (ilist k2 Rk) := fun H => il_reify
 have r3 : ∀ H, reify E.P 8 H (rowT g) = some (rowT g) := fun H => rfl
 have := holdsR_spec h1 h2 hL hR hi hg hgl
 rw [hold_chk] at this
 simp -implicitDefEqProofs [ret0 m30, r1, r2, r3, this]
theorem getL_drop {G : List (List Int)} {i : Nat} (hi : i < G.length) : getL G (i : Int) = G[i] := by
 unfold getL
 rw [Int.toNat_natCast, List.getD_eq_getElem?_getD, List.getElem?_eq_getElem hi]; rfl
set_option maxHeartbeats 2000000 in
theorem checkR_spec (x : Bool) (l : List Claim) (k1 k2 : Option Bool) (Lb Rk : List Int) (hc : CaseOk l) (hl : l.length ≤ maxLen) (h1 : IOk k1 Lb) (h2 : IOk k2 Rk) :
  pureCall E.P (L E) 16 [lst x (l.map Claim.val), ilist k1 Lb, ilist k2 Rk] = some (.int .i64 (checkF (atts l) Lb Rk)) := by
 have rs := rightR_spec x l hc hl
 have ll : ∀ h, lenT .sl h (lst x (l.map Claim.val)) = some (.int .i64 l.length) := fun h => by simp
 have l1 := fun h => il_len (h := h) h1
 have l2 := fun h => il_len (h := h) h2
 have rV : ∀ H, reify E.P 8 H (lst x (l.map Claim.val)) = some (lst x (l.map Claim.val)) := fun H => rfl
 have sV : settled depth (lst x (l.map Claim.val)) = true := rfl
 unfold checkF
 rw [pureCall_fn F16 rfl, atts_len]
 cases hr : rightB (atts l)
 ·rw [hr] at rs
  generalize lst x (l.map Claim.val) = VC at *
  simp -implicitDefEqProofs [r16, p16, ret0 m14, rV, rs]
 rw [hr] at rs
 by_cases q1 : Lb.length = l.length
 case neg =>
  have q1' : ¬ (Lb.length : Int) = (l.length : Int) := by omega
  rw [if_pos rfl, if_neg fun e => q1 e.1]
  generalize lst x (l.map Claim.val) = VC at *
  generalize ilist k1 Lb = VL at *
  simp -implicitDefEqProofs [r16, p16, ret0 m14, rV, rs, ll, l1, q1']
 by_cases q2 : Rk.length = l.length
 case neg =>
  have q2' : ¬ (Rk.length : Int) = (l.length : Int) := by omega
  have q1' : (Lb.length : Int) = (l.length : Int) := by omega
  rw [if_pos rfl, if_neg fun e => q2 e.2]
  generalize lst x (l.map Claim.val) = VC at *
  generalize ilist k1 Lb = VL at *
  generalize ilist k2 Rk = VR at *
  simp -implicitDefEqProofs [r16, p16, ret0 m14, rV, rs, ll, l1, l2, q1', q2']
 have q2' : (Rk.length : Int) = (l.length : Int) := by omega
 have q1' : (Lb.length : Int) = (l.length : Int) := by omega
 rw [if_pos rfl, if_pos ⟨q1, q2⟩]
 have ats := attackersR_spec x l hc hr
 obtain ⟨hn300, _⟩ := right_at hr
 rw [atts_len] at hn300
 have hGl := graphF_len (atts l)
 have hGi := graphF_in (atts l)
 have hGb := graphF_bound hr
 rw [atts_len] at hGl hGi
 have iB := fun (i : Nat) (hi : i < (graphF (atts l)).length) => graphT_idx (G := graphF (atts l)) (e := 23) (z := (i : Int)) (by omega) (by simpa using hi)
 generalize graphF (atts l) = G at *
 have hcl := fun (i : Nat) (hi : i < G.length) lo st h => holdsR_call (g := G[i]) h1 h2 q1 q2 (show i < l.length by omega) (hGi _ (List.getElem_mem hi)) (by have := hGb _ (List.getElem_mem hi); unfold maxLen; omega) (lo := lo) (st := st) (h := h)
 generalize lst x (l.map Claim.val) = VC at *
 generalize ilist k1 Lb = VL at *
 generalize ilist k2 Rk = VR at *
 generalize lst false (G.map rowT) = VB at *
 obtain ⟨Q, hQ⟩ : ∃ Q, Q = chkG Lb Rk G 0 := ⟨_, rfl⟩
 rw [← hQ]
 simp -implicitDefEqProofs [r16, p16, ret0 m14, ret1 m28, rV, sV, rs, ll, l1, l2, q1', q2', ats]
 rw [LL_for (γ := Unit) G () (fun i _ => [(8, .int .i64 (i : Int))]) (fun _ _ => []) (fun i rest _ => if chkG Lb Rk rest i = true then (.exit 0, [(8, undef)], []) else (.ret, [(6, .int .i64 19), (8, undef)], [])) (fun _ _ => True) (by omega) trivial]
 ·rw [← hQ]
  cases Q
  ·simp -implicitDefEqProofs [k16_7]
  ·simp -implicitDefEqProofs [k16_7]
 ·simp -implicitDefEqProofs [k16_7]
 ·rfl
 ·intro nx i _ hi _
  have e0 : chkG Lb Rk [] i = true := rfl
  rw [e0]
  have hi' : ¬ (i : Int) < (l.length : Int) := by omega
  simp -implicitDefEqProofs [r16_7, k16_7, ll, hi', trim_le]
 ·intro nx i g rest _ hi hv hd hw _ ih
  have ih := ih () trivial
  have hi2 : (i : Int) < (l.length : Int) := by omega
  have iB := iB i hi
  rw [getL_drop hi, hv] at iB
  have hcl := hcl i hi
  rw [hv] at hcl
  have ldg : ∀ H, loadT ⟨some false, some 1⟩ H (cptr (rowT g)) = some (rowT g) := fun H => by rw [load_cptr]; exact if_pos (il_fits (k := some false) (l := g))
  have fg : fitsTT ⟨some false, some 1⟩ (rowT g) = true := il_fits (k := some false) (l := g)
  have e1 : chkG Lb Rk (g :: rest) i = (chkAt Lb Rk (i : Int) g && chkG Lb Rk rest (i + 1)) := rfl
  have e2 : (((i + 1 : Nat) : Int)) = (i : Int) + 1 := by omega
  rw [e2] at ih
  rw [e1]
  generalize chkG Lb Rk rest (i + 1) = rb at *
  generalize chkAt Lb Rk (i : Int) g = cb at *
  generalize rowT g = VG at *
  simp -implicitDefEqProofs [k16_7] at ih
  cases cb
  ·rw [Bool.false_and]
   simp -implicitDefEqProofs [r16_7, k16_7, ll, hi2, iB, ldg, fg, hcl, trim_le]
  ·rw [Bool.true_and]
   simp -implicitDefEqProofs [r16_7, k16_7, ll, hi2, iB, ldg, fg, hcl, hw, ih, trim_le]
end Go.Proofs.Ytbadgapficfbpaa.Bm
namespace Go.Proofs.Ytbadgapficfbpaa.Bm
open Go Go.RowKit
def markA (a : List Int) (b : List Bool) : List Bool := a.foldl (fun b k => b.set k.toNat true) b
def markS (A : List (List Int)) (S : List Int) (b : List Bool) : List Bool := S.foldl (fun b i => markA (getL A i) b) b
def marksF (A : List (List Int)) (S : List Int) : List Bool := markS A S (List.replicate A.length false)
theorem markA_len : ∀ (a : List Int) (b : List Bool), (markA a b).length = b.length
 | [], _ => rfl
 | k :: a, b => (markA_len a (b.set k.toNat true)).trans List.length_set
theorem markS_len (A : List (List Int)) : ∀ (S : List Int) (b : List Bool), (markS A S b).length = b.length
 | [], _ => rfl
 | i :: S, b => (markS_len A S (markA (getL A i) b)).trans (markA_len _ _)
theorem markA_get {j : Nat} : ∀ (a : List Int) (b : List Bool) (hj : j < b.length), (∀ k ∈ a, 0 ≤ k) → (markA a b).getD j false = (b.getD j false || memI a (j : Int))
 | [], b, _, _ => by unfold markA memI; simp
 | k :: a, b, hj, ha => by
  have ih := markA_get a (b.set k.toNat true) (by rw [List.length_set]; exact hj) fun x hx => ha x (List.mem_cons_of_mem _ hx)
  have e : markA (k :: a) b = markA a (b.set k.toNat true) := rfl
  have hm : memI (k :: a) (j : Int) = (decide (k = (j : Int)) || memI a (j : Int)) := rfl
  have hk := ha k List.mem_cons_self
  rw [e, ih, hm, List.getD_eq_getElem?_getD, List.getElem?_set, List.getD_eq_getElem?_getD]
  by_cases q : k.toNat = j
  ·subst q
   have : k = ((k.toNat : Nat) : Int) := by omega
   rw [if_pos rfl, if_pos hj, decide_eq_true this]
   simp
  ·have : ¬ k = (j : Int) := by omega
   rw [if_neg q, decide_eq_false this, Bool.false_or]
theorem markS_get {A : List (List Int)} {j : Nat} (hA : ∀ i, ∀ k ∈ getL A i, 0 ≤ k) : ∀ (S : List Int) (b : List Bool) (hj : j < b.length), (markS A S b).getD j false = (b.getD j false || beatsB A S (j : Int))
 | [], b, _ => by unfold markS beatsB; simp
 | i :: S, b, hj => by
  have ih := markS_get hA S (markA (getL A i) b) (by rw [markA_len]; exact hj)
  have e : markS A (i :: S) b = markS A S (markA (getL A i) b) := rfl
  have hb : beatsB A (i :: S) (j : Int) = (memI (getL A i) (j : Int) || beatsB A S (j : Int)) := rfl
  rw [e, ih, markA_get _ _ hj (hA i), hb, Bool.or_assoc]
theorem marks_get {A : List (List Int)} {S : List Int} {j : Nat} (hA : ∀ i, ∀ k ∈ getL A i, 0 ≤ k) (hj : j < A.length) (h : j < (marksF A S).length) : (marksF A S)[j] = beatsB A S (j : Int) := by
 have := markS_get (S := S) hA (List.replicate A.length false) (j := j) (by rw [List.length_replicate]; exact hj)
 have e : (markS A S (List.replicate A.length false)) = marksF A S := rfl
 rw [e, List.getD_eq_getElem?_getD, List.getElem?_eq_getElem h, List.getD_eq_getElem?_getD, List.getElem?_replicate, if_pos hj] at this
 simpa using this
theorem marks_len {A : List (List Int)} {S : List Int} : (marksF A S).length = A.length := by unfold marksF; rw [markS_len, List.length_replicate]
def bitO (b : List Bool) : AObj := .cells 4 (b.map .bool) 0
def bitT (b : List Bool) : Value := lst false (b.map .bool)
theorem sB : szOf E.P 4 = some 1 := by kernel_rfl
theorem aB : aggT E.P 4 = some false := by kernel_rfl
theorem reify_bits {b : List Bool} {h : Heap} {k n : Nat} (hn : b.length = n) (ho : h[k]? = some (bitO b)) : reify E.P 8 h (.slice (some ⟨k, 0, none⟩) n n) = some (bitT b) := by
 rw [reify_slice]
 by_cases h0 : n = 0
 ·rw [if_pos h0]
  have : b = [] := List.eq_nil_of_length_eq_zero (by omega)
  rw [this]; rfl
 ·rw [if_neg h0]
  show reifyS E.P 7 h h[k]? _ _ = _
  rw [ho]
  show reifyS E.P 7 h (some (.cells 4 (b.map .bool) 0)) _ _ = _
  rw [reifyS_cells, sB, Option.bind_some, if_pos ⟨rfl, Nat.one_pos, by rw [List.length_map]; simp; omega⟩, List.drop_zero, List.take_of_length_le (by rw [List.length_map]; omega), reifyC_set (by simp [List.all_eq_true]), Option.bind_some, elems_one aB sB]; rfl
theorem bit_store {b : List Bool} {h : Heap} {n : Nat} (hn : b.length = n) {v : Int} (h0 : 0 ≤ v) (hv : v.toNat < n) {k : Nat} (ho : h[k]? = some (bitO b)) : storeT (some 1) h 0 (.bool true) (cAt k v.toNat) = some (h.set k (bitO (b.set v.toNat true))) := by
 have := obj_store (h := h) (b := k) (j := v.toNat) (lo := 0) (t := 4) (c := b.map .bool) (v := .bool true) ho (by rw [List.length_map]; omega) (Nat.zero_le _) rfl
 rw [this]
 unfold bitO
 rw [List.map_set]
theorem made_ixZ {b n : Nat} {v : Int} (h0 : 0 ≤ v) (hi : v.toNat < n) {t : TypeId} {g : Option Bool} {k : IntKind} : indexAddrT (.sl t ⟨g, some 1⟩) (.slice (some ⟨b, 0, none⟩) n n) (.int k v) = some (cAt b v.toNat) := by
 have := made_ix (b := b) (n := n) hi (t := t) (g := g) (k := k)
 rw [Int.toNat_of_nonneg h0] at this
 exact this
abbrev elB : El := ⟨4, 1, 1, .bool false, ⟨some false, some 1⟩⟩
set_option maxHeartbeats 2000000 in
theorem marksR_spec (x : Bool) (l : List Claim) (k : Option Bool) (S : List Int) (hc : CaseOk l) (hr : rightB (atts l) = true) (hk : IOk k S) (hS : S.length ≤ maxLen) (hi : ∀ z ∈ S, 0 ≤ z ∧ z.toNat < l.length) :
  pureCall E.P (L E) 34 [lst x (l.map Claim.val), ilist k S] = some (bitT (marksF (atts l) S)) := by
 unfold maxLen at hS
 have ll : ∀ h, lenT .sl h (lst x (l.map Claim.val)) = some (.int .i64 l.length) := fun h => by simp
 have ci := fun (z : Int) (h0 : 0 ≤ z) (h1 : z.toNat < l.length) => case_idx (x := x) (l := l) h0 h1
 have lS := fun h => il_len (h := h) hk
 have iS := fun (i : Nat) (hi : i < S.length) => il_idxN (e := 3) hk hi
 obtain ⟨hn300, hat⟩ := right_at hr
 rw [atts_len] at hn300 hat
 have mk := make_one (h := []) (el := elB) (n := l.length) (k := .i64) (k' := .i64) rfl rfl (by omega) (by decide)
 have ez : List.replicate l.length (Value.bool false) = (List.replicate l.length false).map .bool := by rw [List.map_replicate]
 rw [show elB.z = Value.bool false from rfl, ez] at mk
 have mk : makeSliceT (some elB) [] (.int .i64 (l.length : Int)) (.int .i64 (l.length : Int)) = some (.slice (some ⟨0, 0, none⟩) l.length l.length, [bitO (List.replicate l.length false)]) := mk
 have eM : marksF (atts l) S = markS (atts l) S (List.replicate l.length false) := by unfold marksF; rw [atts_len]
 have rM := reify_bits (b := marksF (atts l) S) (h := [bitO (marksF (atts l) S)]) (k := 0) (n := l.length) (by rw [marks_len, atts_len]) rfl
 rw [pureCall_fn F34 rfl]
 rw [eM] at rM ⊢
 generalize lst x (l.map Claim.val) = VC at *
 generalize ilist k S = VS at *
 obtain ⟨M, hM⟩ : ∃ M, M = markS (atts l) S (List.replicate l.length false) := ⟨_, rfl⟩
 rw [← hM] at rM ⊢
 simp -implicitDefEqProofs [r34, p34, ll, mk]
 rw [LL_for (γ := List Bool) S (List.replicate l.length false) (fun i _ => [(6, .int .i64 (i : Int))]) (fun _ b => [bitO b]) (fun _ rest b => (.exit 0, [(6, undef)], [bitO (markS (atts l) rest b)])) (fun _ b => b.length = l.length) (by omega) (List.length_replicate)]
 ·rw [← hM]
  generalize bitT M = VM at *
  simp -implicitDefEqProofs [k34_3, reifyR_slice, rM]
 ·simp -implicitDefEqProofs [k34_3]
 ·rfl
 ·intro nx i b hi _
  have e0 : markS (atts l) [] b = b := rfl
  rw [e0]
  simp -implicitDefEqProofs [r34_3, k34_3, lS, hi, trim_le]
 ·intro nx i z rest b hiS hv hd hw hI ih
  have hi2 : (i : Int) < (S.length : Int) := by omega
  have x1 := iS i hiS
  rw [hv] at x1
  obtain ⟨z0, z1⟩ := hi z (by rw [← hv]; exact List.getElem_mem hiS)
  have x2 := ci z z0 z1
  have eg := getL_at z1
  have hcm := List.getElem_mem z1
  obtain ⟨hka, ha⟩ := hc _ hcm
  obtain ⟨hb, ha3⟩ := hat _ (List.mem_map.2 ⟨_, hcm, rfl⟩)
  generalize l[z.toNat] = c at *
  unfold maxLen at ha
  have lc := fun h => il_len (h := h) hka
  have ic := fun (i : Nat) (hi : i < c.att.length) => il_idxN (e := 3) hka hi
  have fc : fitsTT ⟨some false, some 1⟩ (ilist c.k c.att) = true := il_fits
  have e1 : markS (atts l) (z :: rest) b = markS (atts l) rest (markA c.att b) := by rw [← eg]; rfl
  have e2 : (((i + 1 : Nat) : Int)) = (i : Int) + 1 := by omega
  rw [e1]
  have ih := ih (markA c.att b) (by rw [markA_len]; exact hI)
  rw [e2] at ih
  generalize markS (atts l) rest (markA c.att b) = Z at *
  obtain ⟨B, hB⟩ : ∃ B, B = markA c.att b := ⟨_, rfl⟩
  rw [← hB] at ih
  generalize hVA : ilist c.k c.att = VA at *
  simp -implicitDefEqProofs [k34_3] at ih
  simp -implicitDefEqProofs [r34_3, k34_3, lS, hi2, x1, x2, Claim.val, Claim.cells, hVA, fc]
  rw [LL_for (γ := List Bool) c.att b (fun j _ => [(8, .int .i64 (j : Int))]) (fun _ b => [bitO b]) (fun _ rest b => (.exit 2, [(8, undef)], [bitO (markA rest b)])) (fun _ b => b.length = l.length) (by omega) hI]
  ·rw [← hB]
   simp -implicitDefEqProofs [k34_7, hw, ih, trim_le]
  ·simp -implicitDefEqProofs [k34_7]
  ·rfl
  ·intro nx2 j b2 hj _
   have e0 : markA [] b2 = b2 := rfl
   rw [e0]
   simp -implicitDefEqProofs [r34_7, k34_7, lc, hj, trim_le]
  ·intro nx2 j v rest2 b2 hj hvj hdj hwj hJ ih2
   have hJ : b2.length = l.length := hJ
   have hj2 : (j : Int) < (c.att.length : Int) := by omega
   have y1 := ic j hj
   rw [hvj] at y1
   obtain ⟨v0, v1⟩ := hb v (by rw [← hvj]; exact List.getElem_mem hj)
   have v1' : v.toNat < l.length := by omega
   have y2 := made_ixZ (b := 0) (n := l.length) v0 v1' (t := 4) (g := some false) (k := .i64)
   have y3 := bit_store (h := [bitO b2]) hJ v0 v1' (k := 0) rfl
   have y3 : storeT (some 1) [bitO b2] 0 (.bool true) (cAt 0 v.toNat) = some [bitO (b2.set v.toNat true)] := y3
   have e3 : (((j + 1 : Nat) : Int)) = (j : Int) + 1 := by omega
   have e4 : markA (v :: rest2) b2 = markA rest2 (b2.set v.toNat true) := rfl
   rw [e4]
   have ih2 := ih2 (b2.set v.toNat true) (by rw [List.length_set]; exact hJ)
   rw [e3] at ih2
   generalize markA rest2 (b2.set v.toNat true) = Z2 at *
   generalize b2.set v.toNat true = B2 at *
   generalize cAt 0 v.toNat = PP at *
   simp -implicitDefEqProofs [k34_7] at ih2
   simp -implicitDefEqProofs [r34_7, k34_7, lc, hj2, y1, y2, y3, hwj, ih2, trim_le]
def boolE : Enc Bool := ⟨.bool, fun _ => rfl, fun _ _ => rfl, fun _ _ _ => rfl, fun _ _ => rfl⟩
theorem bitT_idx {b : List Bool} {i : Nat} {t : TypeId} {k : IntKind} (hi : i < b.length) : indexAddrT (.sl t ⟨some false, some 1⟩) (bitT b) (.int k (i : Int)) = some (cptr (.bool b[i])) := Enc.index_o (O := boolE) (x := some false) (l := b) Enc.ok_some hi
theorem bitT_idxZ {b : List Bool} {z : Int} {t : TypeId} {k : IntKind} (h0 : 0 ≤ z) (hi : z.toNat < b.length) : indexAddrT (.sl t ⟨some false, some 1⟩) (bitT b) (.int k z) = some (cptr (.bool b[z.toNat])) := by
 have := bitT_idx (t := t) (k := k) hi
 rw [Int.toNat_of_nonneg h0] at this
 exact this
def dfL (f : Int → Bool) (c : Int) : List (List Int) → Nat → Bool
 | [], _ => true
 | a :: r, i => !(memI a c && !f (i : Int)) && dfL f c r (i + 1)
theorem dfL_iff {f : Int → Bool} {c : Int} : ∀ {r : List (List Int)} {i : Nat}, dfL f c r i = true ↔ ∀ t : Nat, t < r.length → memI (getL r (t : Int)) c = true → f ((i + t : Nat) : Int) = true
 | [], i => ⟨fun _ t ht => by simp at ht, fun _ => rfl⟩
 | a :: r, i => by
  have e : dfL f c (a :: r) i = (!(memI a c && !f (i : Int)) && dfL f c r (i + 1)) := rfl
  rw [e, Bool.and_eq_true, dfL_iff]
  constructor
  ·rintro ⟨h1, h2⟩ t ht hm
   cases t with
   | zero =>
    rw [getL_cons0] at hm
    rw [hm] at h1
    simpa using h1
   | succ t =>
    rw [getL_consS] at hm
    have := h2 t (by simpa using ht) hm
    rw [show i + (t + 1) = i + 1 + t by omega]
    exact this
  ·intro h
   refine ⟨?_, fun t ht hm => ?_⟩
   ·cases hm : memI a c
    ·rfl
    ·have := h 0 (by simp) (by rw [getL_cons0]; exact hm)
     rw [Nat.add_zero] at this
     rw [this]; rfl
   ·have := h (t + 1) (by simpa using ht) (by rw [getL_consS]; exact hm)
    rw [show i + (t + 1) = i + 1 + t by omega] at this
    exact this
theorem dfL_graph {A : List (List Int)} (hr : rightB A = true) {S : List Int} {c : Int} (hc : dom A.length c) : dfL (beatsB A S) c A 0 = (getL (graphF A) c).all fun k => beatsB A S k := by
 rw [Bool.eq_iff_iff, dfL_iff, List.all_eq_true]
 constructor
 ·intro h z hz
  obtain ⟨h1, h2⟩ := (memG hr hc).1 hz
  have := h z.toNat h1.2 (by rw [Int.toNat_of_nonneg h1.1]; exact h2)
  rw [Nat.zero_add, Int.toNat_of_nonneg h1.1] at this
  exact this
 ·intro h t ht hm
  rw [Nat.zero_add]
  exact h _ ((memG hr hc).2 ⟨⟨by omega, by simpa using ht⟩, hm⟩)
theorem hasR_call {k : Option Bool} {l : List Int} {s : Int} (hk : IOk k l) (hl : l.length ≤ maxLen) {lo : Nat} {st : Bool} {h : Heap} : retCall E (L E) lo st 35 [ilist k l, .int .i64 s] h = some (.bool (memI l s), h) := by
 have r1 : ∀ H, reify E.P 8 H (ilist k l) = some (ilist k l) := fun H => il_reify
 have := hasR_spec k l s hk hl
 simp -implicitDefEqProofs [ret0 m35, r1, this]
theorem knownB_iff {A : List (List Int)} {S : List Int} : knownB A S = (rightB A && idxB A.length S) := rfl
theorem idxB_cons {n : Nat} {c : Int} {S : List Int} : idxB n (c :: S) = ((!decide (c < 0) && !decide ((n : Int) ≤ c)) && idxB n S) := by
 unfold idxB
 rw [List.any_cons]
 cases decide (c < 0) <;> cases decide ((n : Int) ≤ c) <;> simp
theorem idxB_in {n : Nat} {S : List Int} (h : idxB n S = true) : ∀ z ∈ S, 0 ≤ z ∧ z.toNat < n := fun z hz => by
 unfold idxB at h
 rw [Bool.not_eq_true', List.any_eq_false] at h
 have := h z hz
 simp only [Bool.or_eq_true, decide_eq_true_eq, not_or] at this
 omega
theorem attsNonneg {A : List (List Int)} (hr : rightB A = true) : ∀ i, ∀ k ∈ getL A i, 0 ≤ k := fun i k hk => by
 have := (getL_ok (n := A.length) (fun a ha => (right_at hr).2 a ha) i).1 k hk
 exact this.1
set_option maxHeartbeats 2000000 in
theorem defendsR_spec (x : Bool) (l : List Claim) (k : Option Bool) (S : List Int) (c : Int) (hc : CaseOk l) (hl : l.length ≤ maxLen) (hk : IOk k S) (hS : S.length ≤ 1000000) :
  pureCall E.P (L E) 18 [lst x (l.map Claim.val), ilist k S, .int .i64 c] = some (.bool (defB (atts l) S c)) := by
 have hSm : S.length ≤ maxLen := by unfold maxLen; omega
 have rs := rightR_spec x l hc hl
 have is_ := indicesR_spec (x := x) (l := l) hk hSm
 have ll : ∀ h, lenT .sl h (lst x (l.map Claim.val)) = some (.int .i64 l.length) := fun h => by simp
 have rV : ∀ H, reify E.P 8 H (lst x (l.map Claim.val)) = some (lst x (l.map Claim.val)) := fun H => rfl
 have rS : ∀ H, reify E.P 8 H (ilist k S) = some (ilist k S) := fun H => il_reify
 have sV : settled depth (lst x (l.map Claim.val)) = true := rfl
 have sS : settled depth (ilist k S) = true := il_set
 have ci := fun (i : Nat) (hi : i < l.length) => case_idxN (x := x) (l := l) hi
 have mr := fun hr hi => marksR_spec x l k S hc hr hk hSm hi
 have hdef : defB (atts l) S c = (rightB (atts l) && ((!decide (c < 0) && !decide ((l.length : Int) ≤ c)) && idxB l.length S) && (getL (graphF (atts l)) c).all fun k => beatsB (atts l) S k) := by
  unfold defB
  rw [knownB_iff, atts_len, idxB_cons]
 rw [hdef, pureCall_fn F18 rfl]
 generalize hVC : lst x (l.map Claim.val) = VC at *
 generalize ilist k S = VS at *
 cases hr : rightB (atts l)
 ·rw [hr] at rs
  rw [Bool.false_and, Bool.false_and]
  simp -implicitDefEqProofs [r18, p18, ret0 m14, rV, rs]
 rw [hr] at rs
 rw [Bool.true_and]
 cases hi : idxB l.length S
 ·rw [hi] at is_
  rw [Bool.and_false, Bool.false_and]
  simp -implicitDefEqProofs [r18, p18, ret0 m14, ret0 m33, rV, rS, rs, is_]
 rw [hi] at is_
 rw [Bool.and_true]
 by_cases c0 : c < 0
 ·rw [decide_eq_true c0, Bool.not_true, Bool.false_and, Bool.false_and]
  simp -implicitDefEqProofs [r18, p18, ret0 m14, ret0 m33, rV, rS, rs, is_, c0]
 rw [decide_eq_false c0, Bool.not_false, Bool.true_and]
 by_cases c1 : (l.length : Int) ≤ c
 ·rw [decide_eq_true c1, Bool.not_true, Bool.false_and]
  simp -implicitDefEqProofs [r18, p18, ret0 m14, ret0 m33, rV, rS, rs, is_, c0, c1, ll]
 rw [decide_eq_false c1, Bool.not_false, Bool.true_and]
 have hdom : dom (atts l).length c := ⟨by omega, by rw [atts_len]; omega⟩
 have mr := mr hr (idxB_in hi)
 have hml : (marksF (atts l) S).length = l.length := by rw [marks_len, atts_len]
 have hmg := fun (i : Nat) (hi : i < l.length) => marks_get (A := atts l) (S := S) (j := i) (attsNonneg hr) (by rw [atts_len]; exact hi) (by rw [hml]; exact hi)
 have ib : ∀ (i : Nat) (_ : i < l.length), indexAddrT (.sl 4 ⟨some false, some 1⟩) (bitT (marksF (atts l) S)) (.int .i64 (i : Int)) = some (cptr (.bool (beatsB (atts l) S (i : Int)))) := fun i hi => by
  rw [bitT_idx (b := marksF (atts l) S) (i := i) (by rw [hml]; exact hi), hmg i hi]
 rw [← dfL_graph hr hdom]
 obtain ⟨Q, hQ⟩ : ∃ Q, Q = dfL (beatsB (atts l) S) c (atts l) 0 := ⟨_, rfl⟩
 rw [← hQ]
 generalize bitT (marksF (atts l) S) = VM at *
 simp -implicitDefEqProofs [r18, p18, ret0 m14, ret0 m33, ret1 m34, rV, rS, sV, sS, rs, is_, c0, c1, ll, mr]
 rw [LL_for (γ := Unit) l () (fun i _ => [(8, .int .i64 (i : Int))]) (fun _ _ => []) (fun i rest _ => if dfL (beatsB (atts l) S) c (atts rest) i = true then (.exit 0, [(8, undef)], []) else (.ret, [(6, .bool false), (8, undef)], [])) (fun _ _ => True) (by unfold maxLen at hl; omega) trivial]
 ·rw [← hQ]
  cases Q
  ·simp -implicitDefEqProofs [k18_5]
  ·simp -implicitDefEqProofs [k18_5]
 ·simp -implicitDefEqProofs [k18_5]
 ·rfl
 ·intro nx i _ hi _
  have e0 : dfL (beatsB (atts l) S) c (atts []) i = true := rfl
  rw [e0]
  simp -implicitDefEqProofs [r18_5, k18_5, ll, hi, trim_le]
 ·intro nx i a rest _ hi hv hd hw _ ih
  have ih := ih () trivial
  have hi2 : (i : Int) < (l.length : Int) := by omega
  have x1 := ci i hi
  rw [hv] at x1
  obtain ⟨hka, ha⟩ := hc a (hv ▸ List.getElem_mem hi)
  have fc : fitsTT ⟨some false, some 1⟩ (ilist a.k a.att) = true := il_fits
  have hcl := fun lo st h => hasR_call (s := c) hka ha (lo := lo) (st := st) (h := h)
  have ib := ib i hi
  have e1 : dfL (beatsB (atts l) S) c (atts (a :: rest)) i = (!(memI a.att c && !beatsB (atts l) S (i : Int)) && dfL (beatsB (atts l) S) c (atts rest) (i + 1)) := rfl
  have e2 : (((i + 1 : Nat) : Int)) = (i : Int) + 1 := by omega
  rw [e1]
  rw [e2] at ih
  generalize dfL (beatsB (atts l) S) c (atts rest) (i + 1) = rb at *
  generalize beatsB (atts l) S (i : Int) = bb at *
  generalize memI a.att c = mm at *
  generalize hVA : ilist a.k a.att = VA at *
  simp -implicitDefEqProofs [k18_5] at ih
  cases mm
  ·rw [Bool.false_and, Bool.not_false, Bool.true_and]
   simp -implicitDefEqProofs [r18_5, k18_5, ll, hi2, x1, Claim.val, Claim.cells, hVA, fc, hcl, hw, ih, trim_le]
  ·cases bb
   ·rw [Bool.true_and, Bool.not_false, Bool.not_true, Bool.false_and]
    simp -implicitDefEqProofs [r18_5, k18_5, ll, hi2, x1, Claim.val, Claim.cells, hVA, fc, hcl, ib, trim_le]
   ·rw [Bool.true_and, Bool.not_true, Bool.not_false, Bool.true_and]
    simp -implicitDefEqProofs [r18_5, k18_5, ll, hi2, x1, Claim.val, Claim.cells, hVA, fc, hcl, ib, hw, ih, trim_le]
end Go.Proofs.Ytbadgapficfbpaa.Bm
namespace Go.Proofs.Ytbadgapficfbpaa.Bm
open Go Go.RowKit
def adB (A : List (List Int)) (S : List Int) (c : Int) : Bool := !beatsB A S c && (getL (graphF A) c).all fun k => beatsB A S k
theorem adB_all {A : List (List Int)} {S : List Int} (hr : rightB A = true) (hi : idxB A.length S = true) : admB A S = S.all (adB A S) := by
 have hin := idxB_in hi
 have e : admB A S = (knownB A S && S.all (fun c => !beatsB A S c && defB A S c)) := rfl
 rw [e, knownB_iff, hr, hi, Bool.true_and, Bool.true_and]
 rw [Bool.eq_iff_iff, List.all_eq_true, List.all_eq_true]
 refine forall_congr' fun c => forall_congr' fun hc => ?_
 obtain ⟨h0, h1⟩ := hin c hc
 have hd : defB A S c = (getL (graphF A) c).all fun k => beatsB A S k := by
  unfold defB
  have : ¬ c < 0 := by omega
  have h2 : ¬ (A.length : Int) ≤ c := by omega
  rw [knownB_iff, hr, idxB_cons, hi, decide_eq_false this, decide_eq_false h2]; rfl
 rw [hd]; rfl
set_option maxHeartbeats 2000000 in
theorem admissibleR_spec (x : Bool) (l : List Claim) (k : Option Bool) (S : List Int) (hc : CaseOk l) (hl : l.length ≤ maxLen) (hk : IOk k S) (hS : S.length ≤ 1000000) :
  pureCall E.P (L E) 20 [lst x (l.map Claim.val), ilist k S] = some (.bool (admB (atts l) S)) := by
 have hSm : S.length ≤ maxLen := by unfold maxLen; omega
 have rs := rightR_spec x l hc hl
 have is_ := indicesR_spec (x := x) (l := l) hk hSm
 have rV : ∀ H, reify E.P 8 H (lst x (l.map Claim.val)) = some (lst x (l.map Claim.val)) := fun H => rfl
 have rS : ∀ H, reify E.P 8 H (ilist k S) = some (ilist k S) := fun H => il_reify
 have sV : settled depth (lst x (l.map Claim.val)) = true := rfl
 have sS : settled depth (ilist k S) = true := il_set
 have lS := fun h => il_len (h := h) hk
 have iS := fun (i : Nat) (hi : i < S.length) => il_idxN (e := 3) hk hi
 have mr := fun hr hi => marksR_spec x l k S hc hr hk hSm hi
 have ats := fun hr => attackersR_spec x l hc hr
 have hno : (rightB (atts l) && idxB l.length S) = false → admB (atts l) S = false := fun h => by
  have e : admB (atts l) S = (knownB (atts l) S && S.all (fun c => !beatsB (atts l) S c && defB (atts l) S c)) := rfl
  rw [e, knownB_iff, atts_len, h, Bool.false_and]
 rw [pureCall_fn F20 rfl]
 generalize hVC : lst x (l.map Claim.val) = VC at *
 generalize ilist k S = VS at *
 cases hr : rightB (atts l)
 ·rw [hno (by rw [hr]; rfl)]
  rw [hr] at rs
  simp -implicitDefEqProofs [r20, p20, ret0 m14, rV, rs]
 cases hi : idxB l.length S
 ·rw [hno (by rw [hr, hi]; rfl)]
  rw [hr] at rs
  rw [hi] at is_
  simp -implicitDefEqProofs [r20, p20, ret0 m14, ret0 m33, rV, rS, rs, is_]
 rw [hr] at rs
 rw [hi] at is_
 have hin := idxB_in hi
 have mr := mr hr hin
 have ats := ats hr
 rw [adB_all hr (by rw [atts_len]; exact hi)]
 obtain ⟨hn300, _⟩ := right_at hr
 rw [atts_len] at hn300
 have hGl := graphF_len (atts l)
 have hGi := graphF_in (atts l)
 have hGb := graphF_bound hr
 rw [atts_len] at hGl hGi
 have hml : (marksF (atts l) S).length = l.length := by rw [marks_len, atts_len]
 have ib : ∀ (z : Int) (_ : 0 ≤ z) (_ : z.toNat < l.length), indexAddrT (.sl 4 ⟨some false, some 1⟩) (bitT (marksF (atts l) S)) (.int .i64 z) = some (cptr (.bool (beatsB (atts l) S z))) := fun z h0 h1 => by
  rw [bitT_idxZ (b := marksF (atts l) S) h0 (by rw [hml]; exact h1), marks_get (A := atts l) (S := S) (j := z.toNat) (attsNonneg hr) (by rw [atts_len]; exact h1) (by rw [hml]; exact h1), Int.toNat_of_nonneg h0]
 have iB := fun (z : Int) (h0 : 0 ≤ z) (hz : z.toNat < (graphF (atts l)).length) => graphT_idx (G := graphF (atts l)) (e := 23) h0 hz
 have hGm : ∀ z : Int, z.toNat < l.length → getL (graphF (atts l)) z ∈ graphF (atts l) := fun z hz => by
  have hz' : z.toNat < (graphF (atts l)).length := by omega
  unfold getL
  rw [List.getD_eq_getElem?_getD, List.getElem?_eq_getElem hz']
  exact List.getElem_mem hz'
 have ead : ∀ c, adB (atts l) S c = (!beatsB (atts l) S c && (getL (graphF (atts l)) c).all fun k => beatsB (atts l) S k) := fun _ => rfl
 generalize graphF (atts l) = G at *
 generalize bitT (marksF (atts l) S) = VM at *
 generalize lst false (G.map rowT) = VB at *
 obtain ⟨Q, hQ⟩ : ∃ Q, Q = S.all (adB (atts l) S) := ⟨_, rfl⟩
 rw [← hQ]
 simp -implicitDefEqProofs [r20, p20, ret0 m14, ret0 m33, ret1 m34, ret1 m28, rV, rS, sV, sS, rs, is_, mr, ats]
 rw [LL_for (γ := Unit) S () (fun i _ => [(7, .int .i64 (i : Int))]) (fun _ _ => []) (fun _ rest _ => if rest.all (adB (atts l) S) = true then (.exit 0, [(7, undef)], []) else (.ret, [(4, .bool false), (7, undef)], [])) (fun _ _ => True) (by omega) trivial]
 ·rw [← hQ]
  cases Q
  ·simp -implicitDefEqProofs [k20_6]
  ·simp -implicitDefEqProofs [k20_6]
 ·simp -implicitDefEqProofs [k20_6]
 ·rfl
 ·intro nx i _ hi _
  rw [List.all_nil]
  simp -implicitDefEqProofs [r20_6, k20_6, lS, hi, trim_le]
 ·intro nx i z rest _ hi hv hd hw _ ih
  have ih := ih () trivial
  have hi2 : (i : Int) < (S.length : Int) := by omega
  have x1 := iS i hi
  rw [hv] at x1
  obtain ⟨z0, z1⟩ := hin z (hv ▸ List.getElem_mem hi)
  have b1 := ib z z0 z1
  have e2 : (((i + 1 : Nat) : Int)) = (i : Int) + 1 := by omega
  rw [e2] at ih
  rw [List.all_cons, ead]
  generalize rest.all (adB (atts l) S) = rb at *
  simp -implicitDefEqProofs [k20_6] at ih
  cases hb : beatsB (atts l) S z
  case true =>
   rw [hb] at b1
   rw [Bool.not_true, Bool.false_and, Bool.false_and]
   simp -implicitDefEqProofs [r20_6, k20_6, lS, hi2, x1, b1, trim_le]
  rw [hb] at b1
  rw [Bool.not_false, Bool.true_and]
  have iB := iB z z0 (by omega)
  have gm := hGm z z1
  have hgi := hGi _ gm
  have hgb := hGb _ gm
  generalize getL G z = g at *
  have lg : ∀ H, lenT .sl H (rowT g) = some (.int .i64 g.length) := fun H => il_len (k := some false) (l := g) iok_some
  have ig := fun (j : Nat) (hj : j < g.length) => rowT_idxN (e := 3) (l := g) hj
  have ldg : ∀ H, loadT ⟨some false, some 1⟩ H (cptr (rowT g)) = some (rowT g) := fun H => by rw [load_cptr]; exact if_pos (il_fits (k := some false) (l := g))
  have fg : fitsTT ⟨some false, some 1⟩ (rowT g) = true := il_fits (k := some false) (l := g)
  generalize rowT g = VG at *
  obtain ⟨P, hP⟩ : ∃ P, P = g.all fun k => beatsB (atts l) S k := ⟨_, rfl⟩
  rw [← hP]
  simp -implicitDefEqProofs [r20_6, k20_6, lS, hi2, x1, b1, trim_le]
  rw [LL_for (γ := Unit) g () (fun j _ => [(8, .int .i64 (j : Int))]) (fun _ _ => []) (fun _ rest2 _ => if (rest2.all fun k => beatsB (atts l) S k) = true then (.exit 2, [(8, undef)], []) else (.ret, [(4, .bool false), (8, undef)], [])) (fun _ _ => True) (by omega) trivial]
  ·rw [← hP]
   cases P
   ·simp -implicitDefEqProofs [k20_11, trim_le]
   ·try rw [Bool.true_and] at *
    simp -implicitDefEqProofs [k20_11, hw, ih, trim_le]
  ·simp -implicitDefEqProofs [k20_11]
  ·rfl
  ·intro nx2 j _ hj _
   rw [List.all_nil]
   simp -implicitDefEqProofs [r20_11, k20_11, x1, iB, ldg, fg, lg, hj, trim_le]
  ·intro nx2 j v rest2 _ hj hvj hdj hwj _ ih2
   have ih2 := ih2 () trivial
   have hj2 : (j : Int) < (g.length : Int) := by omega
   have y1 := ig j hj
   rw [hvj] at y1
   obtain ⟨v0, v1⟩ := hgi v (by rw [← hvj]; exact List.getElem_mem hj)
   have b2 := ib v v0 v1
   have e3 : (((j + 1 : Nat) : Int)) = (j : Int) + 1 := by omega
   rw [e3] at ih2
   rw [List.all_cons]
   generalize (rest2.all fun k => beatsB (atts l) S k) = rc at *
   generalize beatsB (atts l) S v = bv at *
   simp -implicitDefEqProofs [k20_11] at ih2
   cases bv
   ·rw [Bool.false_and]
    simp -implicitDefEqProofs [r20_11, k20_11, x1, iB, ldg, fg, lg, hj2, y1, b2, trim_le]
   ·rw [Bool.true_and]
    simp -implicitDefEqProofs [r20_11, k20_11, x1, iB, ldg, fg, lg, hj2, y1, b2, hwj, ih2, trim_le]
end Go.Proofs.Ytbadgapficfbpaa.Bm
namespace Go.Proofs.Ytbadgapficfbpaa.Bm
open Go Go.RowKit
section
variable {G : List (List Int)} {Lb R : List Int} {n : Nat} {good : Int → Prop}
theorem needF_closed (hgood : ∀ i, good i → 0 ≤ i ∧ i.toNat < n ∧ ∀ k ∈ getL G i, good (firstF Lb R (getL G k))) : ∀ (d : Nat) (S : List Int) (i : Int), S.Nodup → (∀ z ∈ S, good z) → good i → n + 1 ≤ S.length + d →
  (∀ z ∈ S, z ∈ needF G Lb R d S i) ∧ i ∈ needF G Lb R d S i ∧ ∀ z ∈ needF G Lb R d S i, z ∉ S → ∀ k ∈ getL G z, firstF Lb R (getL G k) ∈ needF G Lb R d S i
 | 0, S, i, hS, hg, _, hd => by
  have := nodup_dom_len (n := n) hS fun z hz => ⟨(hgood z (hg z hz)).1, (hgood z (hg z hz)).2.1⟩
  omega
 | d + 1, S, i, hS, hg, hi, hd => by
  unfold needF
  split
  ·rename_i hm
   exact ⟨fun z hz => hz, List.contains_iff_mem.1 hm, fun z hz hn => absurd hz hn⟩
  ·rename_i hm
   have hm : ¬ i ∈ S := fun h => hm (List.contains_iff_mem.2 h)
   have hS1 : (S ++ [i]).Nodup := by
    rw [List.nodup_append]
    refine ⟨hS, by simp, fun a ha b hb e => hm ?_⟩
    rw [List.mem_singleton.1 hb] at e
    exact e ▸ ha
   have hS2 : ∀ z ∈ S ++ [i], good z := fun z hz => by
    rcases List.mem_append.1 hz with hz | hz
    ·exact hg z hz
    ·rw [List.mem_singleton.1 hz]; exact hi
   have key : ∀ (l : List Int) (T : List Int), (∀ k ∈ l, good (firstF Lb R (getL G k))) → T.Nodup → (∀ z ∈ T, good z) → n + 1 ≤ T.length + d →
     (∀ z ∈ T, z ∈ l.foldl (fun S k => needF G Lb R d S (firstF Lb R (getL G k))) T) ∧ (∀ k ∈ l, firstF Lb R (getL G k) ∈ l.foldl (fun S k => needF G Lb R d S (firstF Lb R (getL G k))) T) ∧
     ∀ z ∈ l.foldl (fun S k => needF G Lb R d S (firstF Lb R (getL G k))) T, z ∉ T → ∀ k ∈ getL G z, firstF Lb R (getL G k) ∈ l.foldl (fun S k => needF G Lb R d S (firstF Lb R (getL G k))) T := by
    intro l
    induction l with
    | nil => intro T _ _ _ _; exact ⟨fun z hz => hz, fun k hk => (by cases hk), fun z hz hn => absurd hz hn⟩
    | cons k l ih =>
     intro T hl h1 h2 h3
     have hk := hl k (by simp)
     obtain ⟨c1, c2, c3⟩ := needF_closed hgood d T _ h1 h2 hk h3
     obtain ⟨v1, v2, v3⟩ := needF_inv good (fun i hi k hk => (hgood i hi).2.2 k hk) d T _ h1 h2 hk
     obtain ⟨i1, i2, i3⟩ := ih _ (fun x hx => hl x (by simp [hx])) v1 v2 (by omega)
     rw [List.foldl_cons]
     refine ⟨fun z hz => i1 z (c1 z hz), fun x hx => ?_, fun z hz hn x hx => ?_⟩
     ·rcases List.mem_cons.1 hx with rfl | hx
      ·exact i1 _ c2
      ·exact i2 x hx
     ·by_cases hz2 : z ∈ needF G Lb R d T (firstF Lb R (getL G k))
      ·exact i1 _ (c3 z hz2 hn x hx)
      ·exact i3 z hz hz2 x hx
   obtain ⟨k1, k2, k3⟩ := key (getL G i) (S ++ [i]) (fun k hk => (hgood i hi).2.2 k hk) hS1 hS2 (by simp; omega)
   refine ⟨fun z hz => k1 z (by simp [hz]), k1 i (by simp), fun z hz hn x hx => ?_⟩
   by_cases hzi : z = i
   ·subst hzi; exact k2 x hx
   ·exact k3 z hz (by simp [hn, hzi]) x hx
end
structure Shut (A : List (List Int)) (W : List Int) : Prop where
 good : ∀ z ∈ W, goodI A z
 shut : ∀ z ∈ W, ∀ k ∈ getL (graphF A) z, firstF (groundF A).1 (groundF A).2 (getL (graphF A) k) ∈ W
theorem whyS_shut {A : List (List Int)} (hr : rightB A = true) {c : Int} (hc : dom A.length c) (h0 : getI (groundF A).1 c ≠ 0) : Shut A (whyS A c) ∧ whyC A c ∈ whyS A c := by
 obtain ⟨_, c2, c3⟩ := needF_closed (G := graphF A) (Lb := (groundF A).1) (R := (groundF A).2) (n := A.length) (good := goodI A) (fun i hi => ⟨(good_ok hr i hi).1, (good_ok hr i hi).2.1, fun k hk => ((good_ok hr i hi).2.2 k hk).2.2⟩) (A.length + 1) [] (whyC A c) (by simp) (fun z hz => by cases hz) (whyC_good hr hc h0) (by simp)
 exact ⟨⟨(whyS_inv hr hc h0).2, fun z hz k hk => c3 z hz (by simp) k hk⟩, c2⟩
theorem why_yes {A : List (List Int)} (hr : rightB A = true) {c : Int} (hc : dom A.length c) (h0 : getI (groundF A).1 c ≠ 0) : whyF A c = sortI (whyS A c) := by
 unfold whyF
 rw [if_pos ⟨hr, hc.1, by have := hc.1; have := hc.2; omega⟩]
 simp only
 rw [if_neg h0]
 rfl
end Go.Proofs.Ytbadgapficfbpaa.Bm
namespace Go.Proofs.Ytbadgapficfbpaa.Bm
open Go Go.RowKit
section
variable (F : Int → Int)
def bfK (s : List Int × List Bool) (k : Int) : List Int × List Bool := if s.2.getD (F k).toNat false = true then s else (s.1 ++ [F k], s.2.set (F k).toNat true)
def bfG (g : List Int) (s : List Int × List Bool) : List Int × List Bool := g.foldl (bfK F) s
def bfF (G : List (List Int)) : Nat → Nat → List Int × List Bool → List Int × List Bool
 | 0, _, s => s
 | f + 1, i, s => if h : i < s.1.length then bfF G f (i + 1) (bfG F (getL G s.1[i]) s) else s
end
structure BfI (n : Nat) (good : Int → Prop) (s : List Int × List Bool) : Prop where
 nd : s.1.Nodup
 gd : ∀ z ∈ s.1, good z
 len : s.2.length = n
 mrk : ∀ z, dom n z → (s.2.getD z.toNat false = true ↔ z ∈ s.1)
section
variable {F : Int → Int} {n : Nat} {good : Int → Prop}
theorem BfI.step (hg : ∀ z, good z → dom n z) {s : List Int × List Bool} (h : BfI n good s) {k : Int} (hk : good (F k)) : BfI n good (bfK F s k) ∧ (∀ z ∈ s.1, z ∈ (bfK F s k).1) ∧ F k ∈ (bfK F s k).1 ∧ ∃ t, (bfK F s k).1 = s.1 ++ t := by
 have hd := hg _ hk
 unfold bfK
 by_cases q : s.2.getD (F k).toNat false = true
 ·rw [if_pos q]
  exact ⟨h, fun z hz => hz, (h.mrk _ hd).1 q, [], by simp⟩
 ·rw [if_neg q]
  have hn : F k ∉ s.1 := fun e => q ((h.mrk _ hd).2 e)
  refine ⟨⟨?_, ?_, by show (s.2.set _ _).length = n; rw [List.length_set]; exact h.len, fun z hz => ?_⟩, fun z hz => List.mem_append_left _ hz, by simp, _, rfl⟩
  ·show (s.1 ++ [F k]).Nodup
   rw [List.nodup_append]
   refine ⟨h.nd, by simp, fun a ha b hb e => hn ?_⟩
   rw [List.mem_singleton.1 hb] at e
   exact e ▸ ha
  ·intro z hz
   rcases List.mem_append.1 hz with hz | hz
   ·exact h.gd z hz
   ·rw [List.mem_singleton.1 hz]; exact hk
  ·show (s.2.set (F k).toNat true).getD z.toNat false = true ↔ z ∈ s.1 ++ [F k]
   have hl : (F k).toNat < s.2.length := by rw [h.len]; exact hd.2
   rw [List.getD_eq_getElem?_getD, List.getElem?_set, List.mem_append, List.mem_singleton, ← h.mrk z hz, List.getD_eq_getElem?_getD]
   by_cases e : (F k).toNat = z.toNat
   ·have : z = F k := by have := hd.1; have := hz.1; omega
    rw [if_pos e, if_pos hl]
    simp [this]
   ·have : ¬ z = F k := fun q => e (by rw [q])
    rw [if_neg e]
    simp [this]
theorem BfI.fold (hg : ∀ z, good z → dom n z) : ∀ (g : List Int) {s : List Int × List Bool}, BfI n good s → (∀ k ∈ g, good (F k)) → BfI n good (bfG F g s) ∧ (∀ k ∈ g, F k ∈ (bfG F g s).1) ∧ ∃ t, (bfG F g s).1 = s.1 ++ t
 | [], s, h, _ => ⟨h, fun k hk => (by cases hk), [], by unfold bfG; simp⟩
 | k :: g, s, h, hk => by
  obtain ⟨h1, h2, h3, t1, h4⟩ := h.step hg (hk k List.mem_cons_self)
  obtain ⟨i1, i2, t2, i3⟩ := BfI.fold hg g h1 fun x hx => hk x (List.mem_cons_of_mem _ hx)
  have e : bfG F (k :: g) s = bfG F g (bfK F s k) := rfl
  rw [e]
  refine ⟨i1, fun x hx => ?_, t1 ++ t2, by rw [i3, h4, List.append_assoc]⟩
  rcases List.mem_cons.1 hx with rfl | hx
  ·rw [i3]; exact List.mem_append_left _ h3
  ·exact i2 x hx
theorem BfI.small (hg : ∀ z, good z → dom n z) {s : List Int × List Bool} (h : BfI n good s) : s.1.length ≤ n := nodup_dom_len h.nd fun z hz => hg z (h.gd z hz)
theorem bf_end {G : List (List Int)} (hg : ∀ z, good z → dom n z) (hs : ∀ z, good z → ∀ k ∈ getL G z, good (F k)) : ∀ (f i : Nat) (s : List Int × List Bool), n ≤ f + i → i ≤ s.1.length → BfI n good s → (∀ j (h : j < s.1.length), j < i → ∀ k ∈ getL G s.1[j], F k ∈ s.1) →
  BfI n good (bfF F G f i s) ∧ (∃ t, (bfF F G f i s).1 = s.1 ++ t) ∧ ∀ z ∈ (bfF F G f i s).1, ∀ k ∈ getL G z, F k ∈ (bfF F G f i s).1
 | 0, i, s, hf, hi, h, hc => by
  have := h.small hg
  refine ⟨h, ⟨[], by unfold bfF; simp⟩, fun z hz k hk => ?_⟩
  obtain ⟨j, hj, rfl⟩ := List.mem_iff_getElem.1 hz
  exact hc j hj (by have hj : j < s.1.length := hj; omega) k hk
 | f + 1, i, s, hf, hi, h, hc => by
  unfold bfF
  by_cases hlt : i < s.1.length
  ·rw [dif_pos hlt]
   obtain ⟨i1, i2, t, i3⟩ := h.fold hg (getL G s.1[i]) (hs _ (h.gd _ (List.getElem_mem hlt)))
   have sub : ∀ z ∈ s.1, z ∈ (bfG F (getL G s.1[i]) s).1 := fun z hz => by rw [i3]; exact List.mem_append_left _ hz
   obtain ⟨e1, ⟨t2, e2⟩, e3⟩ := bf_end hg hs f (i + 1) _ (by omega) (by rw [i3, List.length_append]; omega) i1 fun j hj hji k hk => by
    by_cases q : j = i
    ·subst q
     have eg : (bfG F (getL G s.1[j]) s).1[j] = s.1[j] := by simp only [i3]; exact List.getElem_append_left hlt
     rw [eg] at hk
     exact i2 k hk
    ·have hj2 : j < s.1.length := by omega
     have eg : (bfG F (getL G s.1[i]) s).1[j] = s.1[j] := by simp only [i3]; exact List.getElem_append_left hj2
     rw [eg] at hk
     exact sub _ (hc j hj2 (by omega) k hk)
   exact ⟨e1, ⟨t ++ t2, by rw [e2, i3, List.append_assoc]⟩, e3⟩
  ·rw [dif_neg hlt]
   refine ⟨h, ⟨[], by simp⟩, fun z hz k hk => ?_⟩
   obtain ⟨j, hj, rfl⟩ := List.mem_iff_getElem.1 hz
   exact hc j hj (by have hj : j < s.1.length := hj; omega) k hk
end
def idxO : Nat → List Bool → List Int
 | _, [] => []
 | i, b :: r => if b = true then (i : Int) :: idxO (i + 1) r else idxO (i + 1) r
theorem idxO_mem {z : Int} : ∀ {r : List Bool} {i : Nat}, z ∈ idxO i r ↔ ∃ t : Nat, t < r.length ∧ z = ((i + t : Nat) : Int) ∧ r.getD t false = true
 | [], i => by simp [idxO]
 | b :: r, i => by
  have ih := idxO_mem (z := z) (r := r) (i := i + 1)
  have key : (∃ t : Nat, t < (b :: r).length ∧ z = ((i + t : Nat) : Int) ∧ (b :: r).getD t false = true) ↔ (z = (i : Int) ∧ b = true) ∨ ∃ t : Nat, t < r.length ∧ z = ((i + 1 + t : Nat) : Int) ∧ r.getD t false = true := by
   constructor
   ·rintro ⟨t, h1, h2, h3⟩
    cases t with
    | zero => exact .inl ⟨h2, h3⟩
    | succ t => exact .inr ⟨t, by simpa using h1, by rw [h2]; congr 1; omega, h3⟩
   ·rintro (⟨h1, h2⟩ | ⟨t, h1, h2, h3⟩)
    ·exact ⟨0, by simp, h1, h2⟩
    ·exact ⟨t + 1, by simpa using h1, by rw [h2]; congr 1; omega, h3⟩
  rw [key, ← ih]
  have e : idxO i (b :: r) = if b = true then (i : Int) :: idxO (i + 1) r else idxO (i + 1) r := rfl
  rw [e]
  cases b
  ·simp
  ·rw [if_pos rfl, List.mem_cons]
   simp
theorem idxO_asc : ∀ (r : List Bool) (i : Nat), (idxO i r).Pairwise (· < ·)
 | [], _ => List.Pairwise.nil
 | b :: r, i => by
  have ih := idxO_asc r (i + 1)
  unfold idxO
  split
  ·refine List.pairwise_cons.2 ⟨fun z hz => ?_, ih⟩
   obtain ⟨t, _, h2, _⟩ := idxO_mem.1 hz
   omega
  ·exact ih
theorem sortI_asc {l : List Int} (h : l.Pairwise (· < ·)) : sortI l = l := by
 rw [← sortI_eq]
 exact List.mergeSort_of_pairwise (h.imp fun {a b} q => decide_eq_true (by omega))
theorem bf_why {A : List (List Int)} (hr : rightB A = true) {c : Int} (hc : dom A.length c) (h0 : getI (groundF A).1 c ≠ 0) {f : Nat} (hf : A.length ≤ f) :
  idxO 0 (bfF (fun k => firstF (groundF A).1 (groundF A).2 (getL (graphF A) k)) (graphF A) f 0 ([whyC A c], (List.replicate A.length false).set (whyC A c).toNat true)).2 = whyF A c := by
 have hgd : ∀ z, goodI A z → dom A.length z := fun z hz => hz.1
 have hst : ∀ z, goodI A z → ∀ k ∈ getL (graphF A) z, goodI A (firstF (groundF A).1 (groundF A).2 (getL (graphF A) k)) := fun z hz k hk => ((good_ok hr z hz).2.2 k hk).2.2
 have hw := whyC_good hr hc h0
 have start : BfI A.length (goodI A) ([whyC A c], (List.replicate A.length false).set (whyC A c).toNat true) := ⟨by simp, fun z hz => by rw [List.mem_singleton.1 hz]; exact hw, by show ((List.replicate A.length false).set _ _).length = _; rw [List.length_set, List.length_replicate], fun z hz => by
  show ((List.replicate A.length false).set (whyC A c).toNat true).getD z.toNat false = true ↔ z ∈ [whyC A c]
  have hl : (whyC A c).toNat < (List.replicate A.length false).length := by rw [List.length_replicate]; exact hw.1.2
  rw [List.getD_eq_getElem?_getD, List.getElem?_set, List.mem_singleton]
  by_cases e : (whyC A c).toNat = z.toNat
  ·have : z = whyC A c := by have := hw.1.1; have := hz.1; omega
   rw [if_pos e, if_pos hl]
   simp [this]
  ·have : ¬ z = whyC A c := fun q => e (by rw [q])
   rw [if_neg e, List.getElem?_replicate]
   split <;> simp [this]⟩
 obtain ⟨e1, ⟨t, e2⟩, e3⟩ := bf_end (F := fun k => firstF (groundF A).1 (groundF A).2 (getL (graphF A) k)) (G := graphF A) hgd hst f 0 _ (by omega) (Nat.zero_le _) start fun j _ h => absurd h (Nat.not_lt_zero j)
 -- also within what the program finds
 obtain ⟨sh1, sh2⟩ := whyS_shut hr hc h0
 have start2 : BfI A.length (fun z => goodI A z ∧ z ∈ whyS A c) ([whyC A c], (List.replicate A.length false).set (whyC A c).toNat true) := ⟨start.nd, fun z hz => ⟨start.gd z hz, by rw [List.mem_singleton.1 hz]; exact sh2⟩, start.len, start.mrk⟩
 obtain ⟨f1, _, _⟩ := bf_end (F := fun k => firstF (groundF A).1 (groundF A).2 (getL (graphF A) k)) (G := graphF A) (good := fun z => goodI A z ∧ z ∈ whyS A c) (fun z hz => hz.1.1) (fun z hz k hk => ⟨hst z hz.1 k hk, sh1.shut z hz.2 k hk⟩) f 0 _ (by omega) (Nat.zero_le _) start2 fun j _ h => absurd h (Nat.not_lt_zero j)
 obtain ⟨s, hs⟩ : ∃ s, s = bfF (fun k => firstF (groundF A).1 (groundF A).2 (getL (graphF A) k)) (graphF A) f 0 ([whyC A c], (List.replicate A.length false).set (whyC A c).toNat true) := ⟨_, rfl⟩
 rw [← hs] at e1 e2 e3 f1 ⊢
 have hin : whyC A c ∈ s.1 := by rw [e2]; simp
 have inv := needF_inv (G := graphF A) (Lb := (groundF A).1) (R := (groundF A).2) (fun z => z ∈ s.1) (fun i hi k hk => e3 i hi k hk) (A.length + 1) [] (whyC A c) (by simp) (fun z hz => by cases hz) hin
 have inv1 : (whyS A c).Nodup := inv.1
 have inv2 : ∀ z ∈ whyS A c, z ∈ s.1 := inv.2.1
 rw [why_yes hr hc h0]
 have hp : (idxO 0 s.2).Perm (whyS A c) := by
  rw [List.perm_ext_iff_of_nodup ((idxO_asc s.2 0).imp fun {a b} h e => by omega) inv1]
  intro z
  rw [idxO_mem]
  constructor
  ·rintro ⟨t, h1, h2, h3⟩
   rw [Nat.zero_add] at h2
   have hz : dom A.length z := ⟨by omega, by rw [h2, Int.toNat_natCast, ← e1.len]; exact h1⟩
   have := (e1.mrk z hz).1 (by rw [h2, Int.toNat_natCast]; exact h3)
   exact (f1.gd z this).2
  ·intro hz
   have hm := inv2 z hz
   have hd := (e1.gd z hm).1
   refine ⟨z.toNat, by rw [e1.len]; exact hd.2, by have := hd.1; omega, (e1.mrk z hd).2 hm⟩
 rw [← sortI_eqOf hp, sortI_asc (idxO_asc s.2 0)]
end Go.Proofs.Ytbadgapficfbpaa.Bm
