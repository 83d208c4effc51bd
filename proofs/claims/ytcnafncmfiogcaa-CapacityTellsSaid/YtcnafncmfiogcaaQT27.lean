/-
  Chapter 25: the search of the reference, walked. Conditions: valid problems, areas in their range.
-/
import Derived.Test.YtcnafncmfiogcaaQT26
namespace Go.Proofs.Ytcnafncmfiogcaa.Bm
open Go Go.RowKit
open Cp (Q prQ validQ nameB badP hasP mayQ leftOk goS goR fitR inA bitB)
def prevC (c : List Int) (i : Nat) : Option Int := if i = 0 then none else c[i - 1]?
theorem prevC_succ (c : List Int) (i : Nat) (hi : i < c.length) : prevC c (i + 1) = some c[i] := by
  unfold prevC
  rw [if_neg (by omega), Nat.add_sub_cancel, List.getElem?_eq_getElem hi]
set_option maxHeartbeats 4000000 in
theorem rfits_spec (p : Pb) (hp : PbOk p) (ka kc : Option Bool) (A c : List Int) (hka : Enc.Ok ka A) (hkc : Enc.Ok kc c) (hA : A.length ≤ 1000) (hc : c.length ≤ 1000) (_hcb : ∀ u ∈ c, -9223372036854775808 ≤ u ∧ u ≤ 9223372036854775807) :
    pureCall E.P (L E) 17 [intE.o ka A, p.val, intE.o kc c] = some (.bool (fitR p.q A c)) := by
  have lA := fun h => Enc.o_len (O := intE) (h := h) hka
  have lc := fun h => Enc.o_len (O := intE) (h := h) hkc
  have iA : ∀ (i : Nat) (hi : i < A.length), indexAddrT (.sl 3 ⟨some false, some 1⟩) (intE.o ka A) (.int .i64 (i : Int)) = some (cptr (.int .i64 A[i])) := fun i hi => Enc.index_o (O := intE) hka hi
  have ic : ∀ (i : Nat) (hi : i < c.length), indexAddrT (.sl 3 ⟨some false, some 1⟩) (intE.o kc c) (.int .i64 (i : Int)) = some (cptr (.int .i64 c[i])) := fun i hi => Enc.index_o (O := intE) hkc hi
  have hv := rvalid_spec p hp
  have rcp : ∀ h, reifyC E.P 7 h p.cells = some p.cells := fun h => reifyC_set (pb_all p)
  have pe : p.val = .agg ⟨p.cells⟩ := rfl
  have lp : ∀ t, loadT ⟨some true, some 4⟩ (AObj.cells 26 p.cells 0 :: t) (.pointer (some ⟨0, 0, none⟩)) = some (.agg ⟨p.cells⟩) := fun t => obj_all (b := 0) rfl rfl
  have l0 := pb_ld p 0 _ rfl
  have l1 := pb_ld p 1 _ rfl
  have l2 := pb_ld p 2 _ rfl
  have l3 := pb_ld p 3 _ rfl
  have n1 := fun h => Rec.o_len (R := entR) (h := h) hp.kl
  have n3 := fun h => Rec.o_len (R := pairR) (h := h) hp.kn
  have i1 := fun (i : Nat) (hi : i < p.left.length) => Rec.o_index (R := entR) (s := 2) (t := 60) (kk := .i64) rfl hp.kl hi
  have i3 := fun (i : Nat) (hi : i < p.never.length) => Rec.o_index (R := pairR) (s := 2) (t := 61) (kk := .i64) rfl hp.kn hi
  have rA : ∀ h, reify E.P 8 h (intE.o ka A) = some (intE.o ka A) := fun h => Enc.o_reify
  have rc : ∀ h, reify E.P 8 h (intE.o kc c) = some (intE.o kc c) := fun h => Enc.o_reify
  have valv := value_spec ka kc A c hka hkc
  rw [pureCall_fn F17 rfl, pe]
  have hv : pureCall E.P (L E) 16 [.agg ⟨p.cells⟩] = some (.bool (validQ p.q)) := hv
  unfold fitR
  cases hval : validQ p.q
  · rw [hval] at hv
    simp -implicitDefEqProofs [r17, p17, lp, ret0 m16, rcp, hv]
  rw [hval] at hv
  by_cases q1 : 12 < A.length
  · have q1' : (12 : Int) < A.length := by omega
    have : ¬ A.length ≤ 12 := by omega
    simp -implicitDefEqProofs [r17, p17, lp, ret0 m16, rcp, hv, lA, q1', this]
  have q1' : ¬ (12 : Int) < A.length := by omega
  have q1n : A.length ≤ 12 := by omega
  by_cases q2 : A.length < c.length
  · have q2' : (A.length : Int) < c.length := by omega
    have : ¬ c.length ≤ A.length := by omega
    simp -implicitDefEqProofs [r17, p17, lp, ret0 m16, rcp, hv, lA, lc, q1', q2', this]
  have q2' : ¬ (A.length : Int) < c.length := by omega
  have q2n : c.length ≤ A.length := by omega
  rw [decide_eq_true q1n, decide_eq_true q2n, Bool.true_and, Bool.true_and, Bool.true_and]
  simp -implicitDefEqProofs [r17, p17, lp, ret0 m16, rcp, hv, lA, lc, q1', q2']
  rw [LL_for (γ := Unit) A () (fun i _ => [(7, .int .i64 i)]) (fun _ _ => [.cells 26 p.cells 0]) (fun _ rest _ => if inA rest = true then (.exit 0, [(7, undef)], [.cells 26 p.cells 0]) else (.ret, [(6, .bool false), (7, undef)], [.cells 26 p.cells 0])) (fun _ _ => True) (by omega) trivial]
  · cases hin : inA A
    · simp -implicitDefEqProofs [k17_4]
    have hAok : AOk A := ⟨by omega, fun a ha => by have := Cp.inA_iff.1 hin a ha; omega⟩
    have valv := valv hAok q2n
    rw [Bool.true_and]
    have hgo := Cp.goS_go p.q c A [0, 0, 0, 0, 0, 0] none (fun _ => 0) rfl (fun u h0 h6 => by
      have : u.toNat = 0 ∨ u.toNat = 1 ∨ u.toNat = 2 ∨ u.toNat = 3 ∨ u.toNat = 4 ∨ u.toNat = 5 := by omega
      rcases this with h | h | h | h | h | h <;> rw [h] <;> rfl)
    rw [← hgo]
    simp -implicitDefEqProofs [k17_4]
    have hu03 := Cp.validQ_iff.1 hval
    rw [LL_for (γ := List Int) c [0, 0, 0, 0, 0, 0] (fun i _ => [(9, .int .i64 i)]) (fun _ S => [.cells 26 p.cells 0, .cells 68 (intE.vals S) 0])
      (fun i rest S => if (goS p.q (prevC c i) S (A.drop i) rest).1 = true then (.exit 2, [(9, undef)], [.cells 26 p.cells 0, .cells 68 (intE.vals (goS p.q (prevC c i) S (A.drop i) rest).2) 0]) else (.ret, [(6, .bool false), (9, undef)], [.cells 26 p.cells 0, .cells 68 (intE.vals (goS p.q (prevC c i) S (A.drop i) rest).2) 0]))
      (fun i S => S.length = 6 ∧ ∀ z ∈ S, 0 ≤ z ∧ z ≤ (i : Int) * 1099511627776) (by omega) ⟨rfl, fun z hz => by
        have : z = 0 := by simpa using hz
        omega⟩]
    · have ep : prevC c 0 = none := rfl
      rw [ep, List.drop_zero]
      cases hg : (goS p.q none [0, 0, 0, 0, 0, 0] A c).1
      · simp -implicitDefEqProofs [k17_10]
      · have ev : valF A c.length = (A.take c.length).sum := rfl
        have em : p.q.most = p.most := rfl
        rw [ev] at valv
        rw [em]
        simp -implicitDefEqProofs [k17_10, ret0 m18, rA, rc, valv, l2]
    · simp -implicitDefEqProofs [k17_10]
    · rfl
    · intro nx i S hi _
      subst hi
      have e := Cp.goS_nil p.q (prevC c c.length) S (A.drop c.length)
      rw [e]
      simp -implicitDefEqProofs [r17_10, k17_10, lc, trim_le]
    · intro nx i u rest S hi hv2 hd hw hS ih
      obtain ⟨hS6, hSb⟩ := hS
      have hi' : (i : Int) < (c.length : Int) := by omega
      have hiA : i < A.length := by omega
      have xc := ic i hi
      have xA := iA i hiA
      rw [hv2] at xc
      have hps := prevC_succ c i hi
      rw [hv2] at hps
      have hdA : A.drop i = A[i] :: A.drop (i + 1) := List.drop_eq_getElem_cons hiA
      rw [hdA, Cp.goS_cons]
      have ha := Cp.inA_iff.1 hin _ (List.getElem_mem hiA)
      generalize A[i] = a at *
      by_cases k1 : u < 0
      · have hm : mayQ p.q (prevC c i) u = false := by unfold mayQ; rw [decide_eq_false (by omega), Bool.false_and]
        rw [hm]
        simp -implicitDefEqProofs [r17_10, k17_10, lc, hi', xc, k1, trim_le]
      by_cases k2 : 5 < u
      · have hm : mayQ p.q (prevC c i) u = false := by unfold mayQ; rw [decide_eq_false (show ¬ u < 6 by omega), Bool.false_and, Bool.and_false]
        rw [hm]
        simp -implicitDefEqProofs [r17_10, k17_10, lc, hi', xc, k1, k2, trim_le]
      obtain ⟨z, b1, _, b2⟩ := shr_bit (w := p.uses) (u := u) ⟨hu03.1, hu03.2.1⟩ ⟨by omega, by omega⟩
      have hmay : mayQ p.q (prevC c i) u = (bitB p.uses u && (match prevC c i with | none => true | some w => !hasP p.never (w, u))) := by
        unfold mayQ
        rw [decide_eq_true (show 0 ≤ u by omega), decide_eq_true (show u < 6 by omega)]; rfl
      by_cases k3 : bitB p.uses u = true
      case neg =>
        rw [hmay, Bool.eq_false_iff.2 k3]
        rw [if_neg k3] at b2
        simp -implicitDefEqProofs [r17_10, k17_10, lc, hi', xc, k1, k2, l0, b1, b2, trim_le]
      rw [if_pos k3] at b2
      rw [k3, Bool.true_and] at hmay
      simp -implicitDefEqProofs [r17_10, k17_10, lc, hi', xc, k1, k2, l0, b1, b2]
      have nn := hp.nn
      rw [LL_for (γ := Unit) p.never () (fun k _ => [(11, .int .i64 k)]) (fun _ _ => [.cells 26 p.cells 0, .cells 68 (intE.vals S) 0])
        (fun _ rest _ => if (match prevC c i with | none => false | some w => rest.any fun y => decide ((w, u) = y)) = true then (.ret, [(6, .bool false), (11, undef)], [.cells 26 p.cells 0, .cells 68 (intE.vals S) 0]) else (.exit 4, [(11, undef)], [.cells 26 p.cells 0, .cells 68 (intE.vals S) 0])) (fun _ _ => True) (by omega) trivial]
      · have hmn : mayQ p.q (prevC c i) u = !(match prevC c i with | none => false | some w => p.never.any fun y => decide ((w, u) = y)) := by
          rw [hmay]; cases prevC c i <;> rfl
        generalize (match prevC c i with | none => false | some w => p.never.any fun y => decide ((w, u) = y)) = nb at *
        cases nb
        case true =>
          rw [hmn]
          simp -implicitDefEqProofs [k17_10, k17_18, trim_le]
        rw [hmn, if_pos (show (!false) = true from rfl)]
        have hun : ((u.toNat : Nat) : Int) = u := by omega
        have hu6 : u.toNat < 6 := by omega
        have huS : u.toNat < S.length := by omega
        have ai : indexAddrT (.arr 6 ⟨some false, some 1⟩) (.pointer (some ⟨1, 0, none⟩)) (.int .i64 u) = some (cAt 1 u.toNat) := by
          have := arr_idx (b := 1) (off := 0) (len := 6) (k := .i64) (g := some false) hu6
          rw [hun, Nat.zero_add] at this
          exact this
        have eg2 : S[u.toNat]?.getD 0 = S[u.toNat] := by rw [List.getElem?_eq_getElem huS]; rfl
        simp only [eg2]
        have hSu := hSb _ (List.getElem_mem huS)
        have ldS : loadT ⟨some false, some 1⟩ [.cells 26 p.cells 0, .cells 68 (intE.vals S) 0] (cAt 1 u.toNat) = some (.int .i64 S[u.toNat]) := obj_load (b := 1) rfl (Enc.vals_get huS)
        have stS : storeT (some 1) [.cells 26 p.cells 0, .cells 68 (intE.vals S) 0] 0 (.int .i64 (S[u.toNat] + a)) (cAt 1 u.toNat) = some [.cells 26 p.cells 0, .cells 68 (intE.vals (S.set u.toNat (S[u.toNat] + a))) 0] := by
          rw [obj_store (b := 1) (lo := 0) (t := 68) (c := intE.vals S) rfl (by rw [Enc.vals_len]; exact huS) (Nat.zero_le _) rfl, show Value.int .i64 (S[u.toNat] + a) = intE.e (S[u.toNat] + a) from rfl, Enc.vals_put]; rfl
        have hS1b : ∀ z ∈ S.set u.toNat (S[u.toNat] + a), 0 ≤ z ∧ z ≤ ((i + 1 : Nat) : Int) * 1099511627776 := fun z hz => by
          rcases List.mem_or_eq_of_mem_set hz with k | k
          · have := hSb z k; omega
          · omega
        have hw2 : IntKind.i64.wrap (S[u.toNat] + a) = S[u.toNat] + a := wrap64 (by omega) (by omega)
        have hS1l : (S.set u.toNat (S[u.toNat] + a)).length = 6 := by rw [List.length_set]; exact hS6
        have hS1g : (S.set u.toNat (S[u.toNat] + a))[u.toNat]? = some (S[u.toNat] + a) := List.getElem?_set_self huS
        generalize hx : S[u.toNat] + a = x at *
        generalize hS1 : S.set u.toNat x = S1 at *
        have ldS1 : loadT ⟨some false, some 1⟩ [.cells 26 p.cells 0, .cells 68 (intE.vals S1) 0] (cAt 1 u.toNat) = some (.int .i64 x) := by
          rw [List.getElem?_eq_getElem (by omega)] at hS1g
          rw [obj_load (b := 1) (t := 68) (c := intE.vals S1) rfl (Enc.vals_get (by omega)), Option.some.inj hS1g]; rfl
        simp -implicitDefEqProofs [k17_18, xA, ai, ldS, hw2, hx, stS]
        have nl := hp.nl
        rw [LL_for (γ := Unit) p.left () (fun k _ => [(12, .int .i64 k)]) (fun _ _ => [.cells 26 p.cells 0, .cells 68 (intE.vals S1) 0])
          (fun _ rest _ => if (rest.all fun e => !decide (e.1 = nameB u) || decide (x ≤ e.2)) = true then (.exit 6, [(12, undef)], [.cells 26 p.cells 0, .cells 68 (intE.vals S1) 0]) else (.ret, [(6, .bool false), (12, undef)], [.cells 26 p.cells 0, .cells 68 (intE.vals S1) 0])) (fun _ _ => True) (by omega) trivial]
        · have el : leftOk p.q u x = p.left.all fun e => !decide (e.1 = nameB u) || decide (x ≤ e.2) := rfl
          rw [el]
          cases (p.left.all fun e => !decide (e.1 = nameB u) || decide (x ≤ e.2))
          · simp -implicitDefEqProofs [k17_10, k17_24, trim_le]
          · have ih := ih S1 ⟨hS1l, hS1b⟩
            rw [hps] at ih
            simp -implicitDefEqProofs [k17_10] at ih
            simp -implicitDefEqProofs [k17_10, k17_24, hw, trim_le]
            exact ih
        · simp -implicitDefEqProofs [k17_24]
        · rfl
        · intro nx k w hk _
          have e : (([] : List (ByteArray × Int)).all fun e => !decide (e.1 = nameB u) || decide (x ≤ e.2)) = true := rfl
          simp -implicitDefEqProofs [r17_24, k17_24, l1, n1, hk, trim_le]
        · intro nx k y rest2 w hk hy hd2 hwk _ ih2
          have hk' : (k : Int) < (p.left.length : Int) := by omega
          have ih2 := ih2 () trivial
          have xk := i1 k hk
          rw [hy, ent_val] at xk
          have nm := name_spec u (by omega) (by omega)
          rw [List.all_cons]
          simp -implicitDefEqProofs [k17_24, -List.all_eq_true] at ih2
          by_cases e1 : y.1 = nameB u
          · by_cases e2 : x ≤ y.2
            · have e2' : ¬ y.2 < x := by omega
              rw [decide_eq_true e1, decide_eq_true e2]
              simp -implicitDefEqProofs [r17_24, k17_24, l1, n1, hk', xk, ret0 m46, nm, e1, ai, ldS1, e2', hwk, trim_le, -List.all_eq_true]
              exact ih2
            · have e2' : y.2 < x := by omega
              rw [decide_eq_true e1, decide_eq_false e2]
              simp -implicitDefEqProofs [r17_24, k17_24, l1, n1, hk', xk, ret0 m46, nm, e1, ai, ldS1, e2', trim_le, -List.all_eq_true]
          · rw [decide_eq_false e1]
            simp -implicitDefEqProofs [r17_24, k17_24, l1, n1, hk', xk, ret0 m46, nm, e1, hwk, trim_le, -List.all_eq_true]
            exact ih2
      · simp -implicitDefEqProofs [k17_18]
      · rfl
      · intro nx k w hk _
        have e : (match prevC c i with | none => false | some w => ([] : List (Int × Int)).any fun y => decide ((w, u) = y)) = false := by cases prevC c i <;> rfl
        rw [e]
        simp -implicitDefEqProofs [r17_18, k17_18, l3, n3, hk, trim_le]
      · intro nx k y rest2 w hk hy hd2 hwk _ ih2
        have hk' : (k : Int) < (p.never.length : Int) := by omega
        have ih2 := ih2 () trivial
        have xk := i3 k hk
        rw [hy, pair_val] at xk
        have a0 : ∀ a b : Int, indexAddrT (.arr 2 ⟨some false, some 1⟩) (cptr (.agg ⟨[.int .i64 a, .int .i64 b]⟩)) (.int .i64 0) = some (cptr (.int .i64 a)) := fun a b => rfl
        have a1 : ∀ a b : Int, indexAddrT (.arr 2 ⟨some false, some 1⟩) (cptr (.agg ⟨[.int .i64 a, .int .i64 b]⟩)) (.int .i64 1) = some (cptr (.int .i64 b)) := fun a b => rfl
        by_cases hi0 : i = 0
        · subst hi0
          have ep : prevC c 0 = none := rfl
          rw [ep]
          simp -implicitDefEqProofs [r17_18, k17_18, l3, n3, hk', trim_le]
        · have hi1 : i - 1 < c.length := by omega
          have ep : prevC c i = some c[i - 1] := by
            unfold prevC
            rw [if_neg hi0, List.getElem?_eq_getElem hi1]
          have xp := ic (i - 1) hi1
          have hwm : IntKind.i64.wrap ((i : Int) - 1) = ((i - 1 : Nat) : Int) := (wrap64 (by omega) (by omega)).trans (by omega)
          have hip : (0 : Int) < (i : Int) := by omega
          have hip' : 0 < i := by omega
          rw [ep] at ih2 ⊢
          generalize c[i - 1] = w0 at *
          have ea : (y :: rest2).any (fun z => decide ((w0, u) = z)) = (decide ((w0, u) = y) || rest2.any fun z => decide ((w0, u) = z)) := rfl
          simp only [ea]
          have ey : decide ((w0, u) = y) = (decide (y.1 = w0) && decide (y.2 = u)) := by
            obtain ⟨y1, y2⟩ := y
            rw [Bool.eq_iff_iff]
            simp only [decide_eq_true_eq, Bool.and_eq_true, Prod.mk.injEq]
            exact ⟨fun h => ⟨h.1.symm, h.2.symm⟩, fun h => ⟨h.1.symm, h.2.symm⟩⟩
          simp only [ey]
          simp -implicitDefEqProofs [k17_18, -List.any_eq_true] at ih2
          by_cases e1 : y.1 = w0
          · by_cases e2 : y.2 = u
            · simp -implicitDefEqProofs [r17_18, k17_18, l3, n3, hk', hip', xk, a0, a1, hwm, xp, e1, e2, trim_le, -List.any_eq_true]
            · simp -implicitDefEqProofs [r17_18, k17_18, l3, n3, hk', hip', xk, a0, a1, hwm, xp, e1, e2, hwk, trim_le, -List.any_eq_true]
              exact ih2
          · simp -implicitDefEqProofs [r17_18, k17_18, l3, n3, hk', hip', xk, a0, hwm, xp, e1, hwk, trim_le, -List.any_eq_true]
            exact ih2
  · simp -implicitDefEqProofs [k17_4]
  · rfl
  · intro nx i u hi _
    have e : inA [] = true := rfl
    simp -implicitDefEqProofs [r17_4, k17_4, lA, hi, e, trim_le]
  · intro nx i v rest u hi hv hd hw _ ih
    have hi' : (i : Int) < (A.length : Int) := by omega
    have ih := ih () trivial
    have xi := iA i hi
    rw [hv] at xi
    have e : inA (v :: rest) = (decide (1 ≤ v) && decide (v ≤ 1099511627776) && inA rest) := rfl
    rw [e]
    simp -implicitDefEqProofs [k17_4] at ih
    by_cases k1 : v < 1
    · rw [decide_eq_false (show ¬ 1 ≤ v by omega)]
      simp -implicitDefEqProofs [r17_4, k17_4, lA, hi', xi, k1, trim_le]
    by_cases k2 : 1099511627776 < v
    · rw [decide_eq_false (show ¬ v ≤ 1099511627776 by omega)]
      simp -implicitDefEqProofs [r17_4, k17_4, lA, hi', xi, k1, k2, trim_le]
    rw [decide_eq_true (show 1 ≤ v by omega), decide_eq_true (show v ≤ 1099511627776 by omega)]
    simp -implicitDefEqProofs [r17_4, k17_4, lA, hi', xi, k1, k2, hw, trim_le]
    exact ih
end Go.Proofs.Ytcnafncmfiogcaa.Bm
namespace Go.Proofs.Ytcnafncmfiogcaa.Bm
open Go Go.RowKit
open Cp (Q Nd prQ validQ nameB badP hasP mayQ inA run fits fitS root next)
theorem trim_back {h e : Heap} {r : Value} (hh : h.all (belowO h.length) = true) (hr : below depth h.length r = true) : trim h.length [r] (h ++ e) = h := by
  unfold Bm.trim
  split
  · rename_i hl
    rw [List.length_append] at hl
    have : e = [] := List.eq_nil_of_length_eq_zero (by omega)
    rw [this, List.append_nil]
  · rw [if_pos]
    · exact List.take_left
    · rw [List.take_left, hh, List.all_cons, hr]; rfl
theorem add_ret (p : Pb) (ka : Option Bool) (A W W' : List Int) (v v' : Int) (ok : Bool) (args : List Value) {e : Heap} (h : L E 44 args [.cells 26 p.cells 0, .cells 70 (stC (intE.o ka A) p W v) 0] 0 =
      some (.tuple ⟨[stV (intE.o ka A) p W' v', .bool ok]⟩, [.cells 26 p.cells 0, .cells 70 (stC (intE.o ka A) p W v) 0] ++ e)) :
    retCall E (L E) 0 false 44 args [.cells 26 p.cells 0, .cells 70 (stC (intE.o ka A) p W v) 0] = some (.tuple ⟨[.agg ⟨stC (intE.o ka A) p W' v'⟩, .bool ok]⟩, [.cells 26 p.cells 0, .cells 70 (stC (intE.o ka A) p W v) 0]) := by
  rw [ret3t m44, h, Option.map_some, trim_back]
  · rfl
  · have h1 := pb_bel p 7 2
    have h2 := st_bel (p := p) (L := W) (v := v) (d := 7) (n := 2) (Enc.o_bel (O := intE) (k := ka) (l := A))
    show (p.cells.all (below 8 2) && ((stC (intE.o ka A) p W v).all (below 8 2) && true)) = true
    rw [h1, h2]; rfl
  · have h2 := st_bel (p := p) (L := W') (v := v') (d := 5) (n := 2) (Enc.o_bel (O := intE) (k := ka) (l := A))
    show ((stC (intE.o ka A) p W' v').all (below 6 2) && (true && true)) = true
    rw [h2]; rfl
set_option maxHeartbeats 4000000 in
theorem fits_spec (p : Pb) (hp : PbOk p) (ka : Option Bool) (A c : List Int) (x : Bool) (hka : Enc.Ok ka A) (hA : A.length ≤ 1000) (_hc : c.length ≤ 1000) (_hcb : ∀ u ∈ c, -9223372036854775808 ≤ u ∧ u ≤ 9223372036854775807) :
    pureCall E.P (L E) 22 [intE.o ka A, p.val, lst x (intE.vals c)] = some (.bool (fitS p.q A c)) := by
  have lA := fun h => Enc.o_len (O := intE) (h := h) hka
  have lc := fun h => Enc.o_len (O := intE) (h := h) (k := some x) (l := c) Enc.ok_some
  have lc : ∀ h, lenT .sl h (lst x (intE.vals c)) = some (.int .i64 c.length) := lc
  have iA : ∀ (i : Nat) (hi : i < A.length), indexAddrT (.sl 3 ⟨some false, some 1⟩) (intE.o ka A) (.int .i64 (i : Int)) = some (cptr (.int .i64 A[i])) := fun i hi => Enc.index_o (O := intE) hka hi
  have ic : ∀ (i : Nat) (hi : i < c.length), indexAddrT (.sl 3 ⟨some false, some 1⟩) (lst x (intE.vals c)) (.int .i64 (i : Int)) = some (cptr (.int .i64 c[i])) := fun i hi => Enc.index_tree (O := intE) hi
  have sl : ∀ (h : Heap) (i : Nat) (hi : i ≤ c.length), sliceT (.sl 3 ⟨some false, some 1⟩) h (lst x (intE.vals c)) none (some (.int .i64 (i : Int))) none = some (intE.o (some (x && i == c.length)) (c.take i)) := fun h i hi => Enc.take_tree (O := intE) hi
  have hv := valid_spec p hp
  have rcp : ∀ h, reifyC E.P 7 h p.cells = some p.cells := fun h => reifyC_set (pb_all p)
  have pe : p.val = .agg ⟨p.cells⟩ := rfl
  have lp : ∀ t, loadT ⟨some true, some 4⟩ (AObj.cells 26 p.cells 0 :: t) (.pointer (some ⟨0, 0, none⟩)) = some (.agg ⟨p.cells⟩) := fun t => obj_all (b := 0) rfl rfl
  have hbg := begin_spec p hp ka A
  have sA : settled depth (intE.o ka A) = true := Enc.o_set
  have sP : settled depth (.agg ⟨p.cells⟩) = true := p.set
  generalize hCV : lst x (intE.vals c) = CV at *
  rw [pureCall_fn F22 rfl, pe]
  have hv : pureCall E.P (L E) 41 [.agg ⟨p.cells⟩] = some (.bool (validQ p.q)) := hv
  have hbg : pureCall E.P (L E) 45 [intE.o ka A, .agg ⟨p.cells⟩] = some (.agg ⟨stC (intE.o ka A) p (limL p.q) 0⟩) := hbg
  unfold fitS
  cases hval : validQ p.q
  · rw [hval] at hv
    simp -implicitDefEqProofs [r22, p22, lp, ret0 m41, rcp, hv]
  rw [hval] at hv
  by_cases q1 : 12 < A.length
  · have q1' : (12 : Int) < A.length := by omega
    have : ¬ A.length ≤ 12 := by omega
    simp -implicitDefEqProofs [r22, p22, lp, ret0 m41, rcp, hv, lA, q1', this]
  have q1' : ¬ (12 : Int) < A.length := by omega
  have q1n : A.length ≤ 12 := by omega
  by_cases q2 : A.length < c.length
  · have q2' : (A.length : Int) < c.length := by omega
    have : ¬ c.length ≤ A.length := by omega
    simp -implicitDefEqProofs [r22, p22, lp, ret0 m41, rcp, hv, lA, lc, q1', q2', this]
  have q2' : ¬ (A.length : Int) < c.length := by omega
  have q2n : c.length ≤ A.length := by omega
  rw [decide_eq_true q1n, decide_eq_true q2n, Bool.true_and, Bool.true_and, Bool.true_and]
  simp -implicitDefEqProofs [r22, p22, lp, ret0 m41, rcp, hv, lA, lc, q1', q2']
  rw [LL_for (γ := Unit) A () (fun i _ => [(30, .int .i64 i)]) (fun _ _ => [.cells 26 p.cells 0]) (fun _ rest _ => if inA rest = true then (.exit 0, [(30, undef)], [.cells 26 p.cells 0]) else (.ret, [(6, .bool false), (30, undef)], [.cells 26 p.cells 0])) (fun _ _ => True) (by omega) trivial]
  · cases hin : inA A
    · simp -implicitDefEqProofs [k22_4]
    have hAok : AOk A := ⟨by omega, fun a ha => by have := Cp.inA_iff.1 hin a ha; omega⟩
    have hroot := root_sr p hp hval A
    have zl : ∀ e : Heap, storeT (some 12) (AObj.cells 26 p.cells 0 :: AObj.cells 70 zSt 0 :: e) 0 (.agg ⟨stC (intE.o ka A) p (limL p.q) 0⟩) (.pointer (some ⟨1, 0, none⟩)) = some (AObj.cells 26 p.cells 0 :: AObj.cells 70 (stC (intE.o ka A) p (limL p.q) 0) 0 :: e) := fun e =>
      (obj_put (h := AObj.cells 26 p.cells 0 :: AObj.cells 70 zSt 0 :: e) (b := 1) (n := 12) (lo := 0) (t := 70) (c := zSt) rfl rfl (st_len (limN_len _ _)) (by decide) (Nat.zero_le _)).trans rfl
    unfold zSt at zl
    rw [Bool.true_and]
    simp -implicitDefEqProofs [k22_4, lp, ret1 m45, sA, sP, hbg, zl, lc]
    generalize hB : fits (prQ p.q) A c = B
    refine hx_goal (g := fun y => Option.bind (retK [RRes.tmp 6] (seqC E (L E) LL 0 (blkK 2 y) _)) _) (LL_hx (α := Nat × Nd × List Int) (0, root (prQ p.q) A, limL p.q) (fun z => [(46, .int .i64 (z.1 : Int))])
      (fun z => [AObj.cells 26 p.cells 0, AObj.cells 70 (stC (intE.o ka A) p z.2.2 z.2.1.v) 0]) (if B = true then (.exit 2, [(46, undef)]) else (.ret, [(6, .bool false), (46, undef)]))
      (fun z => z.1 ≤ c.length ∧ Sr A z.2.2 z.2.1 ∧ z.2.1.c = c.take z.1 ∧ (run (prQ p.q) z.2.1 (c.drop z.1)).isSome = B) (fun z => c.length - z.1) ⟨Nat.zero_le _, hroot, rfl, hB⟩ ?_ rfl ?_) ?_
    · simp -implicitDefEqProofs [k22_11]
    · intro nx z hz ih
      obtain ⟨i, s, W⟩ := z
      obtain ⟨g1, g2, g3, g4⟩ := hz
      simp only at g1 g2 g3 g4 ih ⊢
      have hsc : s.c.length = i := by rw [g3, List.length_take]; omega
      by_cases hi : i < c.length
      case neg =>
        have e : i = c.length := by omega
        rw [List.drop_of_length_le (by omega)] at g4
        have g4 : true = B := g4
        subst g4
        rw [if_pos rfl]
        refine ⟨[AObj.cells 26 p.cells 0, AObj.cells 70 (stC (intE.o ka A) p W s.v) 0], ?_⟩
        simp -implicitDefEqProofs [r22_11, k22_11, e, trim_le]
      have hi' : (i : Int) < (c.length : Int) := by omega
      have xi := ic i hi
      have sli := sl [AObj.cells 26 p.cells 0, AObj.cells 70 (stC (intE.o ka A) p W s.v) 0] i (by omega)
      have hdc : c.drop i = c[i] :: c.drop (i + 1) := List.drop_eq_getElem_cons hi
      rw [hdc, Cp.run_cons] at g4
      have hcA : s.c.length < A.length := by omega
      have hwi : IntKind.i64.wrap ((i : Int) + 1) = ((i + 1 : Nat) : Int) := (wrap64 (by omega) (by omega)).trans (by omega)
      have ldA : loadT ⟨some true, some 12⟩ [AObj.cells 26 p.cells 0, AObj.cells 70 (stC (intE.o ka A) p W s.v) 0] (.pointer (some ⟨1, 0, none⟩)) = some (.agg ⟨stC (intE.o ka A) p W s.v⟩) := obj_all (b := 1) rfl (st_len g2.w)
      have stA : ∀ W' v', W'.length = 6 → storeT (some 12) [AObj.cells 26 p.cells 0, AObj.cells 70 (stC (intE.o ka A) p W s.v) 0] 0 (.agg ⟨stC (intE.o ka A) p W' v'⟩) (.pointer (some ⟨1, 0, none⟩)) = some [AObj.cells 26 p.cells 0, AObj.cells 70 (stC (intE.o ka A) p W' v') 0] := fun W' v' hW' =>
        (obj_put (h := [AObj.cells 26 p.cells 0, AObj.cells 70 (stC (intE.o ka A) p W s.v) 0]) (b := 1) (n := 12) (lo := 0) (t := 70) (c := stC (intE.o ka A) p W s.v) rfl (st_len g2.w) (st_len hW') (by decide) (Nat.zero_le _)).trans rfl
      have ch : ChV [AObj.cells 26 p.cells 0, AObj.cells 70 (stC (intE.o ka A) p W s.v) 0] (intE.o (some (x && i == c.length)) s.c) s.c := ChV.tree Enc.ok_some
      rw [← g3] at sli
      generalize intE.o (some (x && i == c.length)) s.c = SV at *
      cases hm : mayQ p.q s.c.getLast? c[i]
      · rw [Cp.next_no hm] at g4
        have g4 : false = B := g4
        subst g4
        obtain ⟨e, he⟩ := add_no p hp hval ka A W g2.lok s.v _ SV s.c ch c[i] hm (by omega)
        have hr := add_ret p ka A W W s.v s.v false _ he
        have st := stA W s.v g2.w
        rw [if_neg (by decide)]
        unfold stV at hr
        refine ⟨[AObj.cells 26 p.cells 0, AObj.cells 70 (stC (intE.o ka A) p W s.v) 0], ?_⟩
        simp -implicitDefEqProofs [r22_11, k22_11, hi', xi, sli, ldA, hr, st, trim_le]
      · have hu := Cp.may_ge hm
        have eu : c[i] = ((c[i].toNat : Nat) : Int) := by omega
        have hW6 := g2.w
        have huW : c[i].toNat < W.length := by omega
        have hn := Cp.next_may (g2.remE hcA) hm
        have hleft := g2.left c[i].toNat huW
        rw [← eu] at hleft
        rw [hleft] at hn
        obtain ⟨e, he⟩ := add_yes p hp hval ka A W hka hAok g2.lok s.v (by have := g2.vb hAok; omega) _ SV s.c ch c[i].toNat (by rw [← eu]; exact hm) hcA huW
        have hr := add_ret p ka A W _ s.v _ _ _ he
        rw [← eu] at hr
        have st := stA (W.set c[i].toNat (W[c[i].toNat] - A[s.c.length])) (s.v + A[s.c.length]) (by rw [List.length_set]; exact g2.w)
        unfold stV at hr
        by_cases hok : 0 ≤ W[c[i].toNat] - A[s.c.length] ∧ s.v + A[s.c.length] ≤ p.q.most
        · rw [if_pos hok] at hn
          rw [hn] at g4
          have hnx := g2.next hAok hcA c[i].toNat huW hok.1
          rw [← eu] at hnx
          rw [decide_eq_true hok.1, decide_eq_true (show s.v + A[s.c.length] ≤ p.most from hok.2)] at hr
          have ih := ih (i + 1, Cp.take s c[i] A[s.c.length] (A.drop (s.c.length + 1)), W.set c[i].toNat (W[c[i].toNat] - A[s.c.length])) (by show c.length - (i + 1) < c.length - i; omega) ⟨hi, hnx, by
            show s.c ++ [c[i]] = c.take (i + 1)
            rw [g3, List.take_succ_eq_append_getElem hi], g4⟩
          have ev : (Cp.take s c[i] A[s.c.length] (A.drop (s.c.length + 1))).v = s.v + A[s.c.length] := rfl
          simp only [ev] at ih
          generalize W.set c[i].toNat (W[c[i].toNat] - A[s.c.length]) = W' at *
          generalize s.v + A[s.c.length] = v' at *
          simp -implicitDefEqProofs [k22_11, -Int.natCast_add] at ih
          simp -implicitDefEqProofs [r22_11, k22_11, hi', xi, sli, ldA, hr, st, hwi, trim_le, -Int.natCast_add]
          exact ih
        · rw [if_neg hok] at hn
          rw [hn] at g4
          have g4 : false = B := g4
          subst g4
          have hb : (decide (0 ≤ W[c[i].toNat] - A[s.c.length]) && decide (s.v + A[s.c.length] ≤ p.most)) = false := by
            cases hd : (decide (0 ≤ W[c[i].toNat] - A[s.c.length]) && decide (s.v + A[s.c.length] ≤ p.most))
            · rfl
            · rw [Bool.and_eq_true, decide_eq_true_eq, decide_eq_true_eq] at hd
              exact absurd hd hok
          rw [hb] at hr
          generalize W.set c[i].toNat (W[c[i].toNat] - A[s.c.length]) = W' at *
          generalize s.v + A[s.c.length] = v' at *
          rw [if_neg (by decide)]
          refine ⟨[AObj.cells 26 p.cells 0, AObj.cells 70 (stC (intE.o ka A) p W' v') 0], ?_⟩
          simp -implicitDefEqProofs [r22_11, k22_11, hi', xi, sli, ldA, hr, st, trim_le]
    · intro h'
      cases B
      · simp -implicitDefEqProofs [k22_11]
      · simp -implicitDefEqProofs [k22_11]
  · simp -implicitDefEqProofs [k22_4]
  · rfl
  · intro nx i u hi _
    have e : inA [] = true := rfl
    simp -implicitDefEqProofs [r22_4, k22_4, hi, e, trim_le]
  · intro nx i v rest u hi hv2 hd hw _ ih
    have hi' : (i : Int) < (A.length : Int) := by omega
    have ih := ih () trivial
    have xi := iA i hi
    rw [hv2] at xi
    have e : inA (v :: rest) = (decide (1 ≤ v) && decide (v ≤ 1099511627776) && inA rest) := rfl
    rw [e]
    simp -implicitDefEqProofs [k22_4] at ih
    by_cases k1 : v < 1
    · rw [decide_eq_false (show ¬ 1 ≤ v by omega)]
      simp -implicitDefEqProofs [r22_4, k22_4, hi', xi, k1, trim_le]
    by_cases k2 : 1099511627776 < v
    · rw [decide_eq_false (show ¬ v ≤ 1099511627776 by omega)]
      simp -implicitDefEqProofs [r22_4, k22_4, hi', xi, k1, k2, trim_le]
    rw [decide_eq_true (show 1 ≤ v by omega), decide_eq_true (show v ≤ 1099511627776 by omega)]
    simp -implicitDefEqProofs [r22_4, k22_4, hi', xi, k1, k2, hw, trim_le]
    exact ih
end Go.Proofs.Ytcnafncmfiogcaa.Bm
namespace Go.Proofs.Ytcnafncmfiogcaa.Bm
open Go Go.RowKit
open Cp (Q Br Acc bump Nd prQ)
theorem obj_sub {h : Heap} {b j n : Nat} {t : TypeId} {c : List Value} (hob : h[b]? = some (.cells t c 0)) (hn : j + n ≤ c.length) : loadT ⟨some true, some n⟩ h (cAt b j) = some (.agg ⟨(c.drop j).take n⟩) := by
  unfold cAt
  rw [load_agg, obj_row hob, Option.bind_some]
  show (if j + n ≤ c.length then some (Value.agg ((c.drop j).take n).toArray) else none) = _
  rw [if_pos hn]
def BvOk (h : Heap) (bv : Value) (l : List Int) : Prop := (∃ k, Enc.Ok k l ∧ bv = intE.o k l) ∨ ∃ b, 3 ≤ b ∧ bv = Enc.sl b l ∧ h[b]? = some (intE.row 3 l)
theorem BvOk.app {h : Heap} {bv : Value} {l : List Int} (e : Heap) : BvOk h bv l → BvOk (h ++ e) bv l
  | .inl x => .inl x
  | .inr ⟨b, h1, h2, h3⟩ => .inr ⟨b, h1, h2, ga e h3⟩
theorem BvOk.set {h : Heap} {bv : Value} {l : List Int} {i : Nat} {q : AObj} (hi : i < 3) : BvOk h bv l → BvOk (h.set i q) bv l
  | .inl x => .inl x
  | .inr ⟨b, h1, h2, h3⟩ => .inr ⟨b, h1, h2, gs h3 (by omega)⟩
def seC (p : Pb) (ka : Option Bool) (A : List Int) (bv : Value) (v : Int) (t : List Br) : List Value := intE.o ka A :: (p.cells ++ [bv, .int .i64 v, brR.sl 2 t])
structure Rs (p : Pb) (ka : Option Bool) (A : List Int) (h : Heap) (a : Acc) : Prop where
  len : 3 ≤ h.length
  se : ∃ bv, h[1]? = some (.cells 78 (seC p ka A bv a.val a.tree) 0) ∧ BvOk h bv a.best
  row : h[2]? = some (brR.row 41 a.tree)
section
variable {p : Pb} {ka : Option Bool} {A : List Int} {h : Heap} {a : Acc}
theorem Rs.app (s : Rs p ka A h a) (e : Heap) : Rs p ka A (h ++ e) a := by
  obtain ⟨h0, ⟨bv, h1, h2⟩, h3⟩ := s
  exact ⟨by simp; omega, ⟨bv, ga e h1, h2.app e⟩, ga e h3⟩
theorem Rs.trim (s : Rs p ka A h a) (n : Nat) (vs : List Value) (hn : 3 ≤ n) : Rs p ka A (trim n vs h) a := by
  unfold Bm.trim
  split
  · exact s
  split
  · rename_i hl hc
    rw [Bool.and_eq_true] at hc
    have ht : ∀ {b : Nat} {o : AObj}, b < n → h[b]? = some o → (h.take n)[b]? = some o := fun hb ho => by rw [List.getElem?_take_of_lt hb]; exact ho
    obtain ⟨h0, ⟨bv, h1, h2⟩, h3⟩ := s
    refine ⟨by rw [List.length_take]; omega, ⟨bv, ht (by omega) h1, ?_⟩, ht (by omega) h3⟩
    rcases h2 with x | ⟨b, q1, q2, q3⟩
    · exact .inl x
    · have hm := List.all_eq_true.1 hc.2 _ (List.mem_of_getElem? (ht (by omega) h1))
      have hbn : b < n := by
        rw [q2] at hm
        have hm : (seC p ka A (Enc.sl b a.best) a.val a.tree).all (below 8 n) = true := hm
        have := List.all_eq_true.1 hm (Enc.sl b a.best) (by simp [seC])
        exact of_decide_eq_true this
      exact .inr ⟨b, q1, q2, ht hbn q3⟩
  · exact s
theorem Rs.ld (s : Rs p ka A h a) : loadT ⟨some false, some 1⟩ h (cAt 1 0) = some (intE.o ka A) ∧ loadT ⟨some true, some 4⟩ h (cAt 1 1) = some (.agg ⟨p.cells⟩) ∧ loadT ⟨some false, some 1⟩ h (cAt 1 3) = some (.int .i64 p.most) ∧
    loadT ⟨some false, some 1⟩ h (cAt 1 6) = some (.int .i64 a.val) ∧ loadT ⟨some false, some 1⟩ h (cAt 1 7) = some (brR.sl 2 a.tree) := by
  obtain ⟨_, ⟨bv, h1, _⟩, _⟩ := s
  exact ⟨obj_load h1 rfl, obj_sub h1 (by show 1 + 4 ≤ 8; decide), obj_load h1 rfl, obj_load h1 rfl, obj_load h1 rfl⟩
theorem Rs.setVB (s : Rs p ka A h a) (v : Int) (kc : Option Bool) (c : List Int) (hkc : Enc.Ok kc c) (hc : c.length ≤ 1000) : ∃ h1, storeT (some 1) h 0 (.int .i64 v) (cAt 1 6) = some h1 ∧ ∃ bv h2, appendT (some elInt) h1 0 false (lst true []) (intE.o kc c) = some (bv, h2) ∧
    ∃ h3, storeT (some 1) h2 0 bv (cAt 1 5) = some h3 ∧ Rs p ka A h3 ⟨v, c, a.tree⟩ ∧ h.length ≤ h3.length := by
  obtain ⟨h0, ⟨bv, h1, h2⟩, h3⟩ := s
  have s1 := obj_store (lo := 0) (j := 6) (v := .int .i64 v) h1 (by show 6 < 8; decide) (Nat.zero_le _) rfl
  refine ⟨_, s1, ?_⟩
  have k1 : (h.set 1 (.cells 78 (seC p ka A bv v a.tree) 0))[1]? = some (.cells 78 (seC p ka A bv v a.tree) 0) := gq (by omega)
  have k2 : (h.set 1 (.cells 78 (seC p ka A bv v a.tree) 0))[2]? = some (brR.row 41 a.tree) := gs h3 (by decide)
  have ee : h.set 1 (.cells 78 ((seC p ka A bv a.val a.tree).set 6 (.int .i64 v)) 0) = h.set 1 (.cells 78 (seC p ka A bv v a.tree) 0) := rfl
  rw [ee]
  have kl : (h.set 1 (.cells 78 (seC p ka A bv v a.tree) 0)).length = h.length := by simp
  generalize h.set 1 (.cells 78 (seC p ka A bv v a.tree) 0) = g at *
  by_cases hz : c = []
  · subst hz
    have ap := Enc.app_none (O := intE) (el := elInt) (h := g) (lo := 0) (st := false) (u := intE.o kc []) rfl (Enc.cells_o hkc)
    refine ⟨_, _, ap, _, obj_store k1 (by show 5 < 8; decide) (Nat.zero_le _) rfl, ⟨by simp; omega, ⟨lst true [], gq (by omega), .inl ⟨some true, Enc.ok_some, rfl⟩⟩, gs k2 (by decide)⟩, by simp; omega⟩
  · have ap := Enc.app_tree (O := intE) (l := []) (m := c) (el := elInt) (h := g) (lo := 0) (st := false) (u := intE.o kc c) rfl (Enc.cells_o hkc) hz (by show (0 + c.length) * 8 ≤ 2 ^ 47; omega)
    rw [List.nil_append] at ap
    refine ⟨_, _, ap, _, obj_store (ga _ k1) (by show 5 < 8; decide) (Nat.zero_le _) rfl, ⟨by simp; omega, ⟨Enc.sl g.length c, gq (by simp; omega), .inr ⟨g.length, by omega, rfl, gs app_get0 (by omega)⟩⟩, gs (ga _ k2) (by decide)⟩, by simp; omega⟩
theorem Rs.push (s : Rs p ka A h a) (b : Br) (hl : a.tree.length ≤ 1000000) : ∃ h1, appendT (some elBr) h 0 false (brR.sl 2 a.tree) (lst true [brR.val b]) = some (brR.sl 2 (a.tree ++ [b]), h1) ∧ ∃ h2, storeT (some 1) h1 0 (brR.sl 2 (a.tree ++ [b])) (cAt 1 7) = some h2 ∧ Rs p ka A h2 ⟨a.val, a.best, a.tree ++ [b]⟩ ∧ h.length ≤ h2.length := by
  obtain ⟨h0, ⟨bv, h1, h2⟩, h3⟩ := s
  have ap := Rec.app (R := brR) (m := [b]) (el := elBr) (h := h) (lo := 0) (b := 2) (t := 41) (acc := a.tree) (u := lst true [brR.val b]) rfl h3 (Rec.cells_tree rfl [b]) (Nat.zero_le _) (by show (a.tree.length + 1) * 16 ≤ 2 ^ 47; omega)
  have h1' := gs (q := brR.row 41 (a.tree ++ [b])) h1 (show 2 ≠ 1 by decide)
  exact ⟨_, ap, _, obj_store h1' (by show 7 < 8; decide) (Nat.zero_le _) rfl, ⟨by simpa using h0, ⟨bv, gq (by simp; omega), (h2.set (by decide)).set (by decide)⟩, gs (gq (by omega)) (by decide)⟩, by simp⟩
theorem Rs.count (s : Rs p ka A h a) (i : Nat) (hi : i < a.tree.length) : storeT (some 1) h 0 (.int .i64 (a.tree[i].kids + 1)) (brR.at_ 2 a.tree i 0) = some (h.set 2 (brR.row 41 (a.tree.modify i bump))) ∧
    Rs p ka A (h.set 2 (brR.row 41 (a.tree.modify i bump))) ⟨a.val, a.best, a.tree.modify i bump⟩ := by
  have e : a.tree.modify i bump = a.tree.set i (bump a.tree[i]) := by
    apply List.ext_getElem
    · rw [List.length_modify, List.length_set]
    · intro j h1 h2
      rw [List.getElem_modify, List.getElem_set]
      by_cases q : i = j
      · subst q; simp
      · simp [q]
  obtain ⟨h0, ⟨bv, h1, h2⟩, h3⟩ := s
  have st := Rec.store_cell (R := brR) (h := h) (b := 2) (j := 0) (lo := 0) (t := 41) (l := a.tree) (i := i) (v := .int .i64 (a.tree[i].kids + 1)) (a := bump a.tree[i]) rfl h3 (Nat.zero_le _) hi (by decide) rfl
  rw [e]
  refine ⟨st, ⟨by simpa using h0, ⟨bv, ?_, h2.set (by decide)⟩, gq (by omega)⟩⟩
  have := gs (q := brR.row 41 (a.tree.set i (bump a.tree[i]))) h1 (show 2 ≠ 1 by decide)
  rw [this]
  unfold seC Rec.sl
  rw [List.length_set]
end
theorem next_row (h : Heap) (kc : Option Bool) (c : List Int) (hkc : Enc.Ok kc c) (hc : c.length ≤ 1000) (u : Int) : ∃ x h1, appendT (some elInt) h 0 false (lst true []) (intE.o kc c) = some (x, h1) ∧ appendT (some elInt) h1 0 false x (lst true (intE.vals [u])) = some (Enc.sl h.length (c ++ [u]), h ++ [intE.row 3 (c ++ [u])]) := by
  by_cases hz : c = []
  · subst hz
    refine ⟨_, _, Enc.app_none (O := intE) (el := elInt) (h := h) (lo := 0) (st := false) (u := intE.o kc []) rfl (Enc.cells_o hkc), ?_⟩
    exact Enc.app_tree (O := intE) (l := []) (m := [u]) (el := elInt) (h := h) (lo := 0) (st := false) (u := lst true (intE.vals [u])) rfl Enc.cells_tree (by simp) (by show (0 + 1) * 8 ≤ 2 ^ 47; decide)
  · have ap := Enc.app_tree (O := intE) (l := []) (m := c) (el := elInt) (h := h) (lo := 0) (st := false) (u := intE.o kc c) rfl (Enc.cells_o hkc) hz (by show (0 + c.length) * 8 ≤ 2 ^ 47; omega)
    rw [List.nil_append] at ap
    refine ⟨_, _, ap, ?_⟩
    have a2 := Enc.app (O := intE) (m := [u]) (el := elInt) (h := h ++ [intE.row 3 c]) (lo := 0) (b := h.length) (t := 3) (l := c) (u := lst true (intE.vals [u])) rfl app_get0 Enc.cells_tree (Nat.zero_le _) (by show (c.length + 1) * 8 ≤ 2 ^ 47; omega)
    rw [app_set0] at a2
    exact a2
theorem frz_row (h : Heap) (l : List Int) (hl : l ≠ []) (lo : Nat) (hlo : lo ≤ h.length) : freezeV E.P depth lo (h ++ [intE.row 3 l]) (Enc.sl h.length l) = some (intE.o (some false) l, h ++ [AObj.dead]) := by
  have fz := Enc.frz_sl (P := E.P) (O := intE) (l := l) (h := h ++ [intE.row 3 l]) (b := h.length) (lo := lo) (t := 3) app_get0 sI1 gI1 hlo
  rw [if_neg (fun e => hl (List.eq_nil_of_length_eq_zero e)), app_set0] at fz
  exact fz
end Go.Proofs.Ytcnafncmfiogcaa.Bm
namespace Go.Proofs.Ytcnafncmfiogcaa.Bm
open Go Go.RowKit
open Cp (Q Br Acc Nd bump prQ mayQ validQ reach enter visR loopR next take us root run fitS fitR inA)
theorem loopR_none {f : Nd → Acc → Acc} {P : Cp.Pr} {s : Nd} {i : Nat} {u : Int} {l : List Int} {a : Acc} (hn : next P s u = none) : loopR f P s i (u :: l) a = loopR f P s i l a := by
  show (match next P s u with | none => _ | some t => _) = _
  rw [hn]
theorem loopR_some {f : Nd → Acc → Acc} {P : Cp.Pr} {s t : Nd} {i : Nat} {u : Int} {l : List Int} {a : Acc} (hn : next P s u = some t) : loopR f P s i (u :: l) a = loopR f P s i l (f t ⟨a.val, a.best, a.tree.modify i bump⟩) := by
  show (match next P s u with | none => _ | some t => _) = _
  rw [hn]
theorem mod_app {t r : List Br} {i : Nat} {f : Br → Br} (h : t.length ≤ i) : (t ++ r).modify i f = t ++ r.modify (i - t.length) f := by
  apply List.ext_getElem?
  intro j
  rw [List.getElem?_modify]
  by_cases q : j < t.length
  · rw [List.getElem?_append_left q, List.getElem?_append_left q]
    have e : ¬ i = j := by omega
    simp [e]
  · rw [List.getElem?_append_right (by omega), List.getElem?_append_right (by omega), List.getElem?_modify]
    by_cases e : i = j
    · subst e; simp
    · have e2 : ¬ i - t.length = j - t.length := by omega
      simp [e, e2]
theorem loopR_pre {P : Cp.Pr} {f : Nd → Acc → Acc} (hf : ∀ s a, ∃ r, (f s a).tree = a.tree ++ r) (s : Nd) (i : Nat) (t : List Br) (hi : t.length ≤ i) : ∀ (l : List Int) (a : Acc), (∃ r, a.tree = t ++ r) → ∃ r, (loopR f P s i l a).tree = t ++ r
  | [], _, h => h
  | u :: l, a, h => by
    cases hn : next P s u with
    | none => rw [loopR_none hn]; exact loopR_pre hf s i t hi l a h
    | some x =>
      rw [loopR_some hn]
      obtain ⟨r, h⟩ := h
      obtain ⟨r2, h2⟩ := hf x ⟨a.val, a.best, a.tree.modify i bump⟩
      refine loopR_pre hf s i t hi l _ ⟨r.modify (i - t.length) bump ++ r2, ?_⟩
      rw [h2]
      show a.tree.modify i bump ++ r2 = _
      rw [h, mod_app hi, List.append_assoc]
theorem visR_pre (P : Cp.Pr) : ∀ (n : Nat) (s : Nd) (a : Acc), ∃ r, (visR P n s a).tree = a.tree ++ r
  | 0, s, a => by
    unfold visR
    split
    · exact ⟨[], by simp⟩
    · exact ⟨_, rfl⟩
  | n + 1, s, a => by
    unfold visR
    split
    · exact ⟨[], by simp⟩
    split
    · exact loopR_pre (visR_pre P n) s _ a.tree (Nat.le_refl _) us _ ⟨_, rfl⟩
    · exact ⟨_, rfl⟩
structure Sq (q : Q) (A : List Int) (s : Nd) : Prop where
  run : run (prQ q) (root (prQ q) A) s.c = some s
  us : ∀ u ∈ s.c, 0 ≤ u ∧ u ≤ 5
theorem Sq.told {q : Q} {A : List Int} {s : Nd} (h : Sq q A s) : s.rem = A.drop s.c.length ∧ s.v = valF A s.c.length ∧ s.rem.length + s.c.length = A.length := by
  obtain ⟨h1, h2, h3⟩ := Cp.run_rem h.run
  have e : (root (prQ q) A).rem = A := rfl
  have e2 : (root (prQ q) A).v = 0 := rfl
  rw [e] at h1 h2 h3
  rw [e2, Int.zero_add] at h2
  refine ⟨?_, h2, h3⟩
  have := congrArg (List.drop s.c.length) h1
  rw [List.drop_append_of_le_length (by rw [List.length_take]; omega), List.drop_take, Nat.sub_self, List.take_zero, List.nil_append] at this
  exact this.symm
theorem Sq.next {q : Q} {A : List Int} {s t : Nd} {u : Int} (h : Sq q A s) (hn : next (prQ q) s u = some t) : Sq q A t ∧ t.c = s.c ++ [u] ∧ t.rem.length + 1 = s.rem.length := by
  have h1 := Cp.run_append (prQ q) s.c [u] (root (prQ q) A)
  rw [h.run] at h1
  have h1 : Cp.run (prQ q) (root (prQ q) A) (s.c ++ [u]) = Cp.run (prQ q) s [u] := h1
  rw [Cp.run_cons, hn] at h1
  obtain ⟨a, r, hr, ht, hm, _⟩ := Cp.next_some hn
  have ec : t.c = s.c ++ [u] := by rw [ht]; rfl
  refine ⟨⟨by rw [ec]; exact h1, fun w hw => ?_⟩, ec, Cp.next_rem hn⟩
  rw [ec] at hw
  rcases List.mem_append.1 hw with k | k
  · exact h.us w k
  · rw [List.mem_singleton.1 k]
    have hm : mayQ q s.c.getLast? u = true := hm
    have := Cp.may_ge hm
    omega
theorem Sq.fit {q : Q} {A : List Int} {s : Nd} (h : Sq q A s) (hv : validQ q = true) (hA : A.length ≤ 12) (hi : inA A = true) (u : Int) : fitR q A (s.c ++ [u]) = (Cp.next (prQ q) s u).isSome := by
  rw [Cp.fit_eq]
  unfold fitS Cp.fits
  rw [Cp.run_append, h.run, hv, hi, decide_eq_true hA]
  obtain ⟨_, _, h3⟩ := h.told
  show (true && (true && (decide ((s.c ++ [u]).length ≤ A.length) && (true && (Cp.run (prQ q) s [u]).isSome)))) = _
  rw [Cp.run_cons, Bool.true_and, Bool.true_and, Bool.true_and, List.length_append]
  cases hn : Cp.next (prQ q) s u with
  | none => simp
  | some t =>
    have := Cp.next_rem hn
    rw [decide_eq_true (show s.c.length + [u].length ≤ A.length by simp only [List.length_cons, List.length_nil]; omega)]; rfl
def h50 : RCode := fstC r50.body
def v50 : RCode := fstC (sndC r50.body)
def c50 : RCode := fstC (sndC (sndC r50.body))
def t50 : RCode := sndC (sndC (sndC r50.body))
theorem r50_eq : r50 = ⟨127, .seq h50 (.seq v50 (.seq c50 t50)), []⟩ := rfl
def nilT (v : Value) (h : Heap) : Option (Value × Heap) := match v with
  | .pointer (some a) => some (.pointer (some a), h)
  | .func (.yield 2) a b => some (.func (.yield 2) a b, h)
  | .func (.func f) fst cap => some (.func (.func f) fst cap, h)
  | _ => none
theorem rop_nilT {E : Env} {C : Callee} {lo : Nat} {st : Bool} {ρ : Operand → Value} {h : Heap} {x : Operand} : ropR E C lo st (.nilCheck x) ρ h = nilT (ρ x) h := rfl
theorem nil_cAt {h : Heap} {b j : Nat} : nilT (cAt b j) h = some (cAt b j, h) := rfl
set_option maxHeartbeats 1000000 in
theorem enter50 (p : Pb) (ka kc : Option Bool) (A : List Int) (s : Nd) (a : Acc) (h : Heap) (hkc : Enc.Ok kc s.c) (hc : s.c.length ≤ 1000) (hR : Rs p ka A h a) :
    ∃ x22 x23 x24 x25 x26 x27 x28 x29 x30 x31 x32 x33 x34 x35 x36 x37 h2, (∀ (y10 y11 y12 y13 y14 y15 y16 y17 y18 y19 y20 y21 : Value) (l : Slots), evR E (L E) LL 0 c50 (blk (cAt 1 0) (intE.o kc s.c) undef undef (.int .i64 s.v) undef undef undef undef undef y10 y11 y12 y13 y14 y15 (blk y16 y17 y18 y19 y20 y21 undef undef undef undef undef undef undef undef undef undef (blk undef undef undef undef undef undef undef undef undef undef undef undef undef undef undef undef l))) h = some (.normal, blk (cAt 1 0) (intE.o kc s.c) undef undef (.int .i64 s.v) undef undef undef undef undef y10 y11 y12 y13 y14 y15 (blk y16 y17 y18 y19 y20 y21 x22 x23 x24 x25 x26 x27 x28 x29 x30 x31 (blk x32 x33 x34 x35 x36 x37 undef undef undef undef undef undef undef undef undef undef l)), h2)) ∧ Rs p ka A h2 ⟨if a.val < s.v then s.v else a.val, if a.val < s.v then s.c else a.best, a.tree⟩ ∧ h.length ≤ h2.length := by
  obtain ⟨l0, l1, l3, l6, l7⟩ := hR.ld
  have f6 : fieldAddrT ⟨some true, some 8⟩ (some (6, ⟨some false, some 1⟩)) (cAt 1 0) = some (cAt 1 6) := rfl
  have f5 : fieldAddrT ⟨some true, some 8⟩ (some (5, ⟨some false, some 1⟩)) (cAt 1 0) = some (cAt 1 5) := rfl
  by_cases hv : a.val < s.v
  · obtain ⟨h1, s1, bv, h2, ap, h3, s2, R3, hl⟩ := hR.setVB s.v kc s.c hkc hc
    rw [if_pos hv, if_pos hv]
    refine ⟨.int .i64 s.v, cAt 1 0, cAt 1 0, cAt 1 6, .int .i64 a.val, .bool true, cAt 1 0, .int .i64 s.v, cAt 1 0, cAt 1 6, cAt 1 0, lst true [], intE.o kc s.c, bv, cAt 1 0, cAt 1 5, h3, fun y10 y11 y12 y13 y14 y15 y16 y17 y18 y19 y20 y21 l => ?_, R3, hl⟩
    unfold c50 fstC sndC
    simp -implicitDefEqProofs [r50, rop_nilT, nil_cAt, f6, f5, l6, hv, s1, s2, ap, lit_none, -append_lst]
  · rw [if_neg hv, if_neg hv]
    refine ⟨.int .i64 s.v, cAt 1 0, cAt 1 0, cAt 1 6, .int .i64 a.val, .bool false, undef, undef, undef, undef, undef, undef, undef, undef, undef, undef, h, fun y10 y11 y12 y13 y14 y15 y16 y17 y18 y19 y20 y21 l => ?_, hR, Nat.le_refl _⟩
    unfold c50 fstC sndC
    simp -implicitDefEqProofs [r50, rop_nilT, nil_cAt, f6, l6, hv]
end Go.Proofs.Ytcnafncmfiogcaa.Bm
