/-
  Chapter 27: the law of proofs. Conditions: arguments as data.
-/
import Derived.Test.YtgefjhjmkejjbaaDoorQA23
namespace Go.Proofs.YtgefjhjmkejjbaaDoor.Bm
open Go Go.RowKit
open Co (ltB ascB rem maskF allF proveF coreF namesF errF followF hitsF lessL)
abbrev RowL := List (Option Bool × List Int)
def sameR : RowL → RowL → Bool
  | x :: R, y :: T => (decide (x.2.length = y.2.length) && sameB x.2 y.2) && sameR R T
  | _, _ => true
theorem sameR_eq : ∀ {R T : RowL}, R.length = T.length → sameR R T = decide (R.map (·.2) = T.map (·.2))
  | [], [], _ => rfl
  | [], _ :: _, h => by simp at h
  | _ :: _, [], h => by simp at h
  | x :: R, y :: T, h => by
    have ih := sameR_eq (R := R) (T := T) (by simpa using h)
    show ((decide (x.2.length = y.2.length) && sameB x.2 y.2) && sameR R T) = _
    rw [ih]
    by_cases hl : x.2.length = y.2.length
    · rw [same_eq hl, decide_eq_true hl, Bool.true_and, Bool.eq_iff_iff]
      simp
    · rw [decide_eq_false hl, Bool.false_and, Bool.false_and, eq_comm, decide_eq_false_iff_not]
      intro e
      rw [List.map_cons, List.map_cons] at e
      exact hl (by rw [(List.cons.inj e).1])
set_option maxHeartbeats 2000000 in
theorem proofs_spec {ka kb : Option Bool} {R T : RowL} (hR : FlP ka R) (hT : FlP kb T) (hRl : R.length ≤ 1000000000000) : pureCall E.P (L E) 16 [rowE.o ka R, rowE.o kb T] = some (.bool (decide (R.map (·.2) = T.map (·.2)))) := by
  have la : ∀ H, lenT .sl H (rowE.o ka R) = some (.int .i64 R.length) := fun H => Enc.o_len hR.kk
  have lb : ∀ H, lenT .sl H (rowE.o kb T) = some (.int .i64 T.length) := fun H => Enc.o_len hT.kk
  have ia : ∀ (i : Nat) (hi : i < R.length), indexAddrT (.sl 42 ⟨some false, some 1⟩) (rowE.o ka R) (.int .i64 (i : Int)) = some (cptr (rowE.e R[i])) := fun i hi => Enc.index_o hR.kk hi
  have ib : ∀ (i : Nat) (hi : i < T.length), indexAddrT (.sl 42 ⟨some false, some 1⟩) (rowE.o kb T) (.int .i64 (i : Int)) = some (cptr (rowE.e T[i])) := fun i hi => Enc.index_o hT.kk hi
  rw [pureCall_fn F16 rfl]
  generalize rowE.o ka R = VA at *
  generalize rowE.o kb T = VB at *
  by_cases hl : R.length = T.length
  · rw [← sameR_eq hl]
    simp -implicitDefEqProofs [r16, p16, la, lb, hl]
    rw [LL_for (γ := Unit) R () (fun i _ => [(5, .int .i64 i)]) (fun _ _ => []) (fun i rest _ => if sameR rest (T.drop i) = true then (.exit 0, [(5, undef)], []) else (.ret, [(4, .bool false), (5, undef)], [])) (fun _ _ => True) (by omega) trivial]
    · rw [List.drop_zero]
      by_cases q : sameR R T = true
      · simp -implicitDefEqProofs [k16_4, q]
      · simp -implicitDefEqProofs [k16_4, q]
    · simp -implicitDefEqProofs [k16_4]
    · rfl
    · intro nx i c hi _
      have e : ∀ y, sameR [] y = true := fun _ => rfl
      simp -implicitDefEqProofs [r16_4, k16_4, la, hi, hl, e, trim_le]
    · intro nx i v rest c hi hv hd hw _ ih
      have ih := ih () trivial
      have hi2 : ((i : Int) < R.length) := by omega
      have hi3 : ((i : Int) < T.length) := by omega
      have x1 := ia i hi
      have hib : i < T.length := by omega
      have x2 := ib i hib
      rw [hv] at x1
      have hvr := hR.rows v (by rw [← hv]; exact List.getElem_mem hi)
      have htr := hT.rows T[i] (List.getElem_mem hib)
      have e2 : (((i + 1 : Nat) : Int)) = (i : Int) + 1 := by omega
      rw [e2] at ih
      rw [List.drop_eq_getElem_cons hib]
      rw [show sameR (v :: rest) (T[i] :: T.drop (i + 1)) = ((decide (v.2.length = T[i].2.length) && sameB v.2 T[i].2) && sameR rest (T.drop (i + 1))) from rfl]
      simp -implicitDefEqProofs [k16_4] at ih
      generalize T[i] = y at *
      generalize T.drop (i + 1) = bd at *
      have le1 : ∀ h sz, loadT ⟨some false, sz⟩ h (cptr (rowE.e v)) = some (intE.o v.1 v.2) := fun h sz => Enc.load_e (O := rowE) _
      have le2 : ∀ h sz, loadT ⟨some false, sz⟩ h (cptr (rowE.e y)) = some (intE.o y.1 y.2) := fun h sz => Enc.load_e (O := rowE) _
      have lv : ∀ H, lenT .sl H (intE.o v.1 v.2) = some (.int .i64 v.2.length) := fun H => Enc.o_len hvr.1
      have ly : ∀ H, lenT .sl H (intE.o y.1 y.2) = some (.int .i64 y.2.length) := fun H => Enc.o_len htr.1
      have iv : ∀ (j : Nat) (hj : j < v.2.length), indexAddrT (.sl 3 ⟨some false, some 1⟩) (intE.o v.1 v.2) (.int .i64 (j : Int)) = some (cptr (.int .i64 v.2[j])) := fun j hj => Enc.index_o hvr.1 hj
      have iy : ∀ (j : Nat) (hj : j < y.2.length), indexAddrT (.sl 3 ⟨some false, some 1⟩) (intE.o y.1 y.2) (.int .i64 (j : Int)) = some (cptr (.int .i64 y.2[j])) := fun j hj => Enc.index_o htr.1 hj
      have hvl := hvr.2
      generalize intE.o v.1 v.2 = VX at *
      generalize intE.o y.1 y.2 = VY at *
      generalize cptr (rowE.e v) = PX at *
      generalize cptr (rowE.e y) = PY at *
      generalize v.2 = xs at *
      generalize y.2 = ys at *
      by_cases q : xs.length = ys.length
      · rw [decide_eq_true q, Bool.true_and]
        simp -implicitDefEqProofs [r16_4, k16_4, la, hi3, hl, x1, x2, le1, le2, lv, ly, q]
        rw [LL_for (γ := Unit) xs () (fun j _ => [(6, .int .i64 j)]) (fun _ _ => []) (fun j rest _ => if sameB rest (ys.drop j) = true then (.exit 2, [(6, undef)], []) else (.ret, [(4, .bool false), (6, undef)], [])) (fun _ _ => True) (by omega) trivial]
        · rw [List.drop_zero]
          cases q2 : sameB xs ys
          · simp -implicitDefEqProofs [k16_9, trim_le]
          · simp -implicitDefEqProofs [k16_9, trim_le, hw, ih]
        · simp -implicitDefEqProofs [k16_9]
        · rfl
        · intro nx2 j c2 hj _
          have e : ∀ y : List Int, sameB [] y = true := fun _ => rfl
          simp -implicitDefEqProofs [r16_9, k16_9, x1, le1, lv, hj, q, e, trim_le]
        · intro nx2 j u rest2 c2 hj hu hd2 hw2 _ ih2
          have ih2 := ih2 () trivial
          have hj2 : ((j : Int) < xs.length) := by omega
          have hj3 : ((j : Int) < ys.length) := by omega
          have hjb : j < ys.length := by omega
          have z1 := iv j hj
          have z2 := iy j hjb
          rw [hu] at z1
          have e3 : (((j + 1 : Nat) : Int)) = (j : Int) + 1 := by omega
          rw [e3] at ih2
          rw [List.drop_eq_getElem_cons hjb]
          rw [show sameB (u :: rest2) (ys[j] :: ys.drop (j + 1)) = (decide (u = ys[j]) && sameB rest2 (ys.drop (j + 1))) from rfl]
          simp -implicitDefEqProofs [k16_9] at ih2
          generalize ys[j] = bi at *
          generalize ys.drop (j + 1) = bd2 at *
          by_cases q2 : u = bi
          · subst q2
            simp -implicitDefEqProofs [r16_9, k16_9, hj3, q, x1, x2, le1, le2, lv, z1, z2, trim_le, hw2, ih2]
          · simp -implicitDefEqProofs [r16_9, k16_9, hj3, q, q2, x1, x2, le1, le2, lv, z1, z2, trim_le]
      · rw [decide_eq_false q, Bool.false_and, Bool.false_and]
        have q' : ¬ (xs.length : Int) = (ys.length : Int) := by omega
        simp -implicitDefEqProofs [q', r16_4, k16_4, la, hi3, hl, x1, x2, le1, le2, lv, ly, trim_le]
  · have : decide (R.map (·.2) = T.map (·.2)) = false := decide_eq_false fun e => hl (by
      have := congrArg List.length e
      rw [List.length_map, List.length_map] at this
      exact this)
    rw [this]
    have hl' : ¬ (R.length : Int) = (T.length : Int) := by omega
    simp -implicitDefEqProofs [hl', r16, p16, la, lb]
def fewB (R : RowL) : Bool := R.all fun x => decide (x.2.length ≤ 14)
theorem few_spec {k : Option Bool} {R : RowL} (hk : Enc.Ok k R) (hrow : ∀ x ∈ R, Enc.Ok x.1 x.2) (hl : R.length ≤ 9223372036854775807) : pureCall E.P (L E) 10 [rowE.o k R] = some (.bool (fewB R && decide (R.length ≤ 200))) := by
  have la : ∀ H, lenT .sl H (rowE.o k R) = some (.int .i64 R.length) := fun H => Enc.o_len hk
  have ia : ∀ (i : Nat) (hi : i < R.length), indexAddrT (.sl 42 ⟨some false, some 1⟩) (rowE.o k R) (.int .i64 (i : Int)) = some (cptr (rowE.e R[i])) := fun i hi => Enc.index_o hk hi
  have e200 : decide ((R.length : Int) ≤ 200) = decide (R.length ≤ 200) := by
    rw [Bool.eq_iff_iff, decide_eq_true_eq, decide_eq_true_eq]; omega
  rw [pureCall_fn F10 rfl]
  generalize rowE.o k R = VA at *
  simp -implicitDefEqProofs [r10, p10]
  rw [LL_for (γ := Unit) R () (fun i _ => [(3, .int .i64 i)]) (fun _ _ => []) (fun i rest _ => if fewB rest = true then (.exit 0, [(3, undef)], []) else (.ret, [(2, .bool false), (3, undef)], [])) (fun _ _ => True) hl trivial]
  · cases q : fewB R
    · simp -implicitDefEqProofs [k10_2]
    · simp -implicitDefEqProofs [k10_2, la, e200]
  · simp -implicitDefEqProofs [k10_2]
  · rfl
  · intro nx i c hi _
    have e : fewB [] = true := rfl
    simp -implicitDefEqProofs [r10_2, k10_2, la, hi, e, trim_le]
  · intro nx i v rest c hi hv hd hw _ ih
    have ih := ih () trivial
    have hi2 : ((i : Int) < R.length) := by omega
    have x1 := ia i hi
    rw [hv] at x1
    have hvr := hrow v (by rw [← hv]; exact List.getElem_mem hi)
    have le1 : ∀ h sz, loadT ⟨some false, sz⟩ h (cptr (rowE.e v)) = some (intE.o v.1 v.2) := fun h sz => Enc.load_e (O := rowE) _
    have lv : ∀ H, lenT .sl H (intE.o v.1 v.2) = some (.int .i64 v.2.length) := fun H => Enc.o_len hvr
    have e2 : (((i + 1 : Nat) : Int)) = (i : Int) + 1 := by omega
    rw [e2] at ih
    rw [show fewB (v :: rest) = (decide (v.2.length ≤ 14) && fewB rest) from rfl]
    simp -implicitDefEqProofs [k10_2] at ih
    by_cases q : v.2.length ≤ 14
    · have q' : ¬ (14 : Int) < (v.2.length : Int) := by omega
      simp -implicitDefEqProofs [r10_2, k10_2, la, hi2, x1, le1, lv, q, q', trim_le, hw, ih]
    · have q' : (14 : Int) < (v.2.length : Int) := by omega
      simp -implicitDefEqProofs [r10_2, k10_2, la, hi2, x1, le1, lv, q, q', trim_le]
def diffZ : List (ByteArray × ByteArray) → Option Bool
  | [] => none
  | (x, y) :: r => if x = y then diffZ r else some (ltB x y)
theorem less_zip : ∀ a b : List ByteArray, lessL ltB a b = match diffZ (a.zip b) with | some t => t | none => decide (a.length < b.length)
  | [], [] => rfl
  | [], _ :: _ => by simp [lessL, diffZ]
  | _ :: _, [] => by simp [lessL, diffZ]
  | x :: a, y :: b => by
    rw [lessL.eq_4, List.zip_cons_cons, show diffZ ((x, y) :: a.zip b) = if x = y then diffZ (a.zip b) else some (ltB x y) from rfl]
    by_cases h : x = y
    · rw [if_pos h, if_pos h, less_zip a b]
      have : decide ((x :: a).length < (y :: b).length) = decide (a.length < b.length) := by simp
      rw [this]
    · rw [if_neg h, if_neg h]
theorem less_spec {ka kb : Option Bool} {a b : List ByteArray} (hka : Enc.Ok ka a) (hkb : Enc.Ok kb b) (ha : a.length ≤ 1000000) (hb : b.length ≤ 1000000) : pureCall E.P (L E) 22 [strE.o ka a, strE.o kb b] = some (.bool (lessL ltB a b)) := by
  have la : ∀ H, lenT .sl H (strE.o ka a) = some (.int .i64 a.length) := fun H => Enc.o_len hka
  have lb : ∀ H, lenT .sl H (strE.o kb b) = some (.int .i64 b.length) := fun H => Enc.o_len hkb
  have ia : ∀ (i : Nat) (hi : i < a.length), indexAddrT (.sl 9 ⟨some false, some 1⟩) (strE.o ka a) (.int .i64 (i : Int)) = some (cptr (.string a[i])) := fun i hi => Enc.index_o hka hi
  have ib : ∀ (i : Nat) (hi : i < b.length), indexAddrT (.sl 9 ⟨some false, some 1⟩) (strE.o kb b) (.int .i64 (i : Int)) = some (cptr (.string b[i])) := fun i hi => Enc.index_o hkb hi
  rw [pureCall_fn F22 rfl]
  generalize strE.o ka a = VA at *
  generalize strE.o kb b = VB at *
  simp -implicitDefEqProofs [r22, p22]
  rw [less_zip]
  rw [LL_for (γ := Unit) (a.zip b) () (fun i _ => [(5, .int .i64 i)]) (fun _ _ => []) (fun i rest _ => match diffZ rest with | some t => (.ret, [(4, .bool t), (5, undef)], []) | none => (.exit 0, [(5, undef)], [])) (fun _ _ => True) (by rw [List.length_zip]; omega) trivial]
  · have el : decide ((a.length : Int) < (b.length : Int)) = decide (a.length < b.length) := by
      rw [Bool.eq_iff_iff, decide_eq_true_eq, decide_eq_true_eq]; omega
    cases q : diffZ (a.zip b) with
    | none => simp -implicitDefEqProofs [k22_2, la, lb]
    | some t => simp -implicitDefEqProofs [k22_2]
  · simp -implicitDefEqProofs [k22_2]
  · rfl
  · intro nx i c hi _
    have e : diffZ [] = none := rfl
    rw [List.length_zip] at hi
    by_cases q : i < a.length
    · have q1 : (i : Int) < (a.length : Int) := by omega
      have q2 : ¬ (i : Int) < (b.length : Int) := by omega
      simp -implicitDefEqProofs [r22_2, k22_2, la, lb, q1, q2, e, trim_le]
    · have q1 : ¬ (i : Int) < (a.length : Int) := by omega
      simp -implicitDefEqProofs [r22_2, k22_2, la, q1, e, trim_le]
  · intro nx i v rest c hi hv hd hw _ ih
    have ih := ih () trivial
    rw [List.length_zip] at hi
    have hia : i < a.length := by omega
    have hib : i < b.length := by omega
    have q1 : (i : Int) < (a.length : Int) := by omega
    have q2 : (i : Int) < (b.length : Int) := by omega
    have x1 := ia i hia
    have x2 := ib i hib
    rw [List.getElem_zip] at hv
    subst hv
    have e2 : (((i + 1 : Nat) : Int)) = (i : Int) + 1 := by omega
    rw [e2] at ih
    rw [show diffZ ((a[i], b[i]) :: rest) = if a[i] = b[i] then diffZ rest else some (ltB a[i] b[i]) from rfl]
    simp -implicitDefEqProofs [k22_2] at ih
    generalize a[i] = x at *
    generalize b[i] = y at *
    by_cases q : x = y
    · subst q
      simp -implicitDefEqProofs [r22_2, k22_2, la, lb, q1, q2, x1, x2, trim_le, hw, ih]
    · simp -implicitDefEqProofs [r22_2, k22_2, la, lb, q1, q2, x1, x2, q, bin_lss_str, trim_le]
end Go.Proofs.YtgefjhjmkejjbaaDoor.Bm
namespace Go.Proofs.YtgefjhjmkejjbaaDoor.Bm
open Go Go.RowKit
open Co (ltB ascB rem maskF allF proveF coreF namesF errF followF hitsF lessL)
def fewS (l : List ByteArray) : Bool := l.all fun s => decide (s.size ≤ 40)
def fewA (A : List (Option Bool × List ByteArray)) : Bool := A.all fun x => decide (x.2.length ≤ 14) && fewS x.2
set_option maxHeartbeats 2000000 in
theorem fewA_spec {K : Option Bool} {A : List (Option Bool × List ByteArray)} (hk : Enc.Ok K A) (hrow : ∀ x ∈ A, Enc.Ok x.1 x.2) (hl : A.length ≤ 9223372036854775807) : pureCall E.P (L E) 9 [listE.o K A] = some (.bool (fewA A && decide (A.length ≤ 10))) := by
  have la : ∀ H, lenT .sl H (listE.o K A) = some (.int .i64 A.length) := fun H => Enc.o_len hk
  have ia : ∀ (i : Nat) (hi : i < A.length), indexAddrT (.sl 23 ⟨some false, some 1⟩) (listE.o K A) (.int .i64 (i : Int)) = some (cptr (listE.e A[i])) := fun i hi => Enc.index_o hk hi
  have e10 : decide ((A.length : Int) ≤ 10) = decide (A.length ≤ 10) := by
    rw [Bool.eq_iff_iff, decide_eq_true_eq, decide_eq_true_eq]; omega
  rw [pureCall_fn F9 rfl]
  generalize listE.o K A = VA at *
  simp -implicitDefEqProofs [r9, p9]
  rw [LL_for (γ := Unit) A () (fun i _ => [(3, .int .i64 i)]) (fun _ _ => []) (fun i rest _ => if fewA rest = true then (.exit 0, [(3, undef)], []) else (.ret, [(2, .bool false), (3, undef)], [])) (fun _ _ => True) hl trivial]
  · cases q : fewA A
    · simp -implicitDefEqProofs [k9_2]
    · simp -implicitDefEqProofs [k9_2, la, e10]
  · simp -implicitDefEqProofs [k9_2]
  · rfl
  · intro nx i c hi _
    have e : fewA [] = true := rfl
    simp -implicitDefEqProofs [r9_2, k9_2, la, hi, e, trim_le]
  · intro nx i v rest c hi hv hd hw _ ih
    have ih := ih () trivial
    have hi2 : ((i : Int) < A.length) := by omega
    have x1 := ia i hi
    rw [hv] at x1
    have hvr := hrow v (by rw [← hv]; exact List.getElem_mem hi)
    have le1 : ∀ h sz, loadT ⟨some false, sz⟩ h (cptr (listE.e v)) = some (strE.o v.1 v.2) := fun h sz => Enc.load_e (O := listE) _
    have lv : ∀ H, lenT .sl H (strE.o v.1 v.2) = some (.int .i64 v.2.length) := fun H => Enc.o_len hvr
    have iv : ∀ (j : Nat) (hj : j < v.2.length), indexAddrT (.sl 9 ⟨some false, some 1⟩) (strE.o v.1 v.2) (.int .i64 (j : Int)) = some (cptr (.string v.2[j])) := fun j hj => Enc.index_o hvr hj
    have e2 : (((i + 1 : Nat) : Int)) = (i : Int) + 1 := by omega
    rw [e2] at ih
    rw [show fewA (v :: rest) = ((decide (v.2.length ≤ 14) && fewS v.2) && fewA rest) from rfl]
    simp -implicitDefEqProofs [k9_2] at ih
    generalize cptr (listE.e v) = PX at *
    generalize strE.o v.1 v.2 = VX at *
    generalize v.2 = xs at *
    by_cases q : xs.length ≤ 14
    · have q' : ¬ (14 : Int) < (xs.length : Int) := by omega
      rw [decide_eq_true q, Bool.true_and]
      simp -implicitDefEqProofs [r9_2, k9_2, la, hi2, x1, le1, lv, q']
      rw [LL_for (γ := Unit) xs () (fun j _ => [(4, .int .i64 j)]) (fun _ _ => []) (fun j rest _ => if fewS rest = true then (.exit 2, [(4, undef)], []) else (.ret, [(2, .bool false), (4, undef)], [])) (fun _ _ => True) (by omega) trivial]
      · cases q2 : fewS xs
        · simp -implicitDefEqProofs [k9_7, trim_le]
        · simp -implicitDefEqProofs [k9_7, trim_le, hw, ih]
      · simp -implicitDefEqProofs [k9_7]
      · rfl
      · intro nx2 j c2 hj _
        have e : fewS [] = true := rfl
        simp -implicitDefEqProofs [r9_7, k9_7, x1, le1, lv, hj, e, trim_le]
      · intro nx2 j u rest2 c2 hj hu hd2 hw2 _ ih2
        have ih2 := ih2 () trivial
        have hj2 : ((j : Int) < xs.length) := by omega
        have z1 := iv j hj
        rw [hu] at z1
        have e3 : (((j + 1 : Nat) : Int)) = (j : Int) + 1 := by omega
        rw [e3] at ih2
        rw [show fewS (u :: rest2) = (decide (u.size ≤ 40) && fewS rest2) from rfl]
        simp -implicitDefEqProofs [k9_7] at ih2
        by_cases q2 : u.size ≤ 40
        · have q2' : ¬ (40 : Int) < (u.size : Int) := by omega
          simp -implicitDefEqProofs [r9_7, k9_7, hj2, x1, le1, lv, z1, q2, q2', trim_le, hw2, ih2]
        · have q2' : (40 : Int) < (u.size : Int) := by omega
          simp -implicitDefEqProofs [r9_7, k9_7, hj2, x1, le1, lv, z1, q2, q2', trim_le]
    · have q' : (14 : Int) < (xs.length : Int) := by omega
      rw [decide_eq_false q, Bool.false_and, Bool.false_and]
      simp -implicitDefEqProofs [r9_2, k9_2, la, hi2, x1, le1, lv, q', trim_le]
theorem few_al {K : Option Bool} {A : List (Option Bool × List ByteArray)} (hk : Enc.Ok K A) (hrow : ∀ x ∈ A, Enc.Ok x.1 x.2) (h1 : fewA A = true) (h2 : A.length ≤ 10) : AlOk K A := ⟨hk, hrow, fun x hx => by
  have := List.all_eq_true.1 h1 x hx
  simp only [Bool.and_eq_true, decide_eq_true_eq] at this
  omega, by omega⟩
end Go.Proofs.YtgefjhjmkejjbaaDoor.Bm
namespace Go.Proofs.YtgefjhjmkejjbaaDoor.Bm
open Go Go.RowKit
open Co (ltB ascB rem maskF allF proveF coreF namesF errF followF hitsF lessL)
theorem frzAll_o {k : Option Bool} {A : List (Option Bool × List ByteArray)} {lo : Nat} {h : Heap} : frzAll E.P lo [listE.o k A] h = some ([listE.o k A], h) := by cases k <;> rfl
theorem prv_set {k : Option Bool} {A : List (Option Bool × List ByteArray)} : [listE.o k A].all (settled 8) = true := by cases k <;> rfl
theorem least_call {K : Option Bool} {A : List (Option Bool × List ByteArray)} (a : AlOk K A) {lo : Nat} {h : Heap} : retCall E (L E) lo false 11 [listE.o K A] h = some (.tuple #[strE.o (coreO A).1 (coreO A).2, .int .i64 (errV A)], h) := by
  rw [ret4 m11, frzAll_o, Option.bind_some, least_top a]; rfl
theorem prove_call {K : Option Bool} {A : List (Option Bool × List ByteArray)} (a : AlOk K A) {lo : Nat} {st : Bool} {h : Heap} : retCall E (L E) lo st 13 [listE.o K A] h = some (.tuple #[rowE.o (proofO A).1 (proofO A).2, .int .i64 (errV A)], h) := by
  rw [ret1s m13 prv_set, prove_top a]; rfl
theorem hits_call {K kc : Option Bool} {A : List (Option Bool × List ByteArray)} {c : List ByteArray} (a : AlOk K A) (hkc : Enc.Ok kc c) (hc : c.length ≤ 1000000) {lo : Nat} {st : Bool} {h : Heap} : retCall E (L E) lo st 17 [listE.o K A, strE.o kc c] h = some (.bool (hitsF (als A) c), h) := by
  have r1 : ∀ H, reify E.P 8 H (listE.o K A) = some (listE.o K A) := fun H => Enc.o_reify
  have r2 : ∀ H, reify E.P 8 H (strE.o kc c) = some (strE.o kc c) := fun H => Enc.o_reify
  have ht := hits_top a hkc hc
  simp -implicitDefEqProofs [ret0 m17, r1, r2, ht]
theorem check_call {K kc : Option Bool} {A : List (Option Bool × List ByteArray)} {c : List ByteArray} {kp : Option Bool} {R : RowL} (a : AlOk K A) (hkc : Enc.Ok kc c) (hc : c.length ≤ 1000000) (hR : FlP kp R) {lo : Nat} {st : Bool} {h : Heap} : retCall E (L E) lo st 19 [listE.o K A, strE.o kc c, rowE.o kp R] h = some (.int .i64 (checkV A c (R.map (·.2))), h) := by
  have r1 : ∀ H, reify E.P 8 H (listE.o K A) = some (listE.o K A) := fun H => Enc.o_reify
  have r2 : ∀ H, reify E.P 8 H (strE.o kc c) = some (strE.o kc c) := fun H => Enc.o_reify
  have r3 : ∀ H, reify E.P 8 H (rowE.o kp R) = some (rowE.o kp R) := fun H => Enc.o_reify
  have ht := check_top a hkc hc hR
  simp -implicitDefEqProofs [ret0 m19, r1, r2, r3, ht]
theorem texts_call {ka kb : Option Bool} {a b : List ByteArray} (hka : Enc.Ok ka a) (hkb : Enc.Ok kb b) (ha : a.length ≤ 1000000) (hb : b.length ≤ 1000000) {lo : Nat} {st : Bool} {h : Heap} : retCall E (L E) lo st 15 [strE.o ka a, strE.o kb b] h = some (.bool (decide (a = b)), h) := by
  have r1 : ∀ H, reify E.P 8 H (strE.o ka a) = some (strE.o ka a) := fun H => Enc.o_reify
  have r2 : ∀ H, reify E.P 8 H (strE.o kb b) = some (strE.o kb b) := fun H => Enc.o_reify
  have ht := texts_spec hka hkb ha hb
  simp -implicitDefEqProofs [ret0 m15, r1, r2, ht]
theorem proofs_call {ka kb : Option Bool} {R T : RowL} (hR : FlP ka R) (hT : FlP kb T) (hRl : R.length ≤ 1000000000000) {lo : Nat} {st : Bool} {h : Heap} : retCall E (L E) lo st 16 [rowE.o ka R, rowE.o kb T] h = some (.bool (decide (R.map (·.2) = T.map (·.2))), h) := by
  have r1 : ∀ H, reify E.P 8 H (rowE.o ka R) = some (rowE.o ka R) := fun H => Enc.o_reify
  have r2 : ∀ H, reify E.P 8 H (rowE.o kb T) = some (rowE.o kb T) := fun H => Enc.o_reify
  have ht := proofs_spec hR hT hRl
  simp -implicitDefEqProofs [ret0 m16, r1, r2, ht]
theorem al_some {A : List (Option Bool × List ByteArray)} (h : ∀ x ∈ A, x.1 = some true ∧ x.2.length ≤ 10) (hl : A.length ≤ 10) : AlOk (some true) A := ⟨Enc.ok_some, fun x hx => by rw [(h x hx).1]; exact Enc.ok_some, fun x hx => by have := (h x hx).2; omega, by omega⟩
theorem alA : AlOk (some true) exA := al_some (by simp [exA]) (by decide)
theorem alB : AlOk (some true) exB := al_some (by simp [exB]) (by decide)
theorem alC : AlOk (some true) exC := al_some (by simp [exC]) (by decide)
theorem alD : AlOk (some true) exD := al_some (by simp [exD]) (by decide)
theorem rows_some {R : RowL} (h : ∀ x ∈ R, (∃ y, x.1 = some y) ∧ x.2.length ≤ 10) (hl : R.length ≤ 10) {k : Bool} : FlP (some k) R := ⟨Enc.ok_some, fun x hx => ⟨by
  obtain ⟨y, hy⟩ := (h x hx).1
  rw [hy]; exact Enc.ok_some, by have := (h x hx).2; omega⟩, by omega⟩
theorem cO_A : coreO exA = (some false, [sB]) := by unfold coreO; rw [exA_e, exA_c]; rfl
theorem cO_B : coreO exB = (some false, [sA, sC]) := by unfold coreO; rw [exB_e, exB_c]; rfl
theorem cO_C : coreO exC = (some false, [sA, sB]) := by unfold coreO; rw [exC_e, exC_c]; rfl
theorem cO_D : coreO exD = (none, []) := by unfold coreO; rw [exD_e]; rfl
def exP : RowL := [(some false, [1, 0, 0, 1]), (some false, [0, 2]), (some false, [0, 1])]
theorem pO_C : proofO exC = (some false, exP) := by
  unfold proofO
  rw [exC_e, exC_c]
  show (if (0 : Int) = 0 then ((some false, prfL (proveF (als exC) 2 (allF (als exC)))) : Option Bool × RowL) else _) = _
  rw [exC_p]; rfl
set_option maxHeartbeats 4000000 in
theorem small_spec : pureCall E.P (L E) 8 [] = some (.bool true) := by
  have l1 : ∀ lo H, retCall E (L E) lo false 11 [listE.o (some true) [(some true, [⟨⟨[97]⟩⟩, ⟨⟨[98]⟩⟩]), (some true, [⟨⟨[98]⟩⟩, ⟨⟨[99]⟩⟩])]] H = some (.tuple #[strE.o (some false) [⟨⟨[98]⟩⟩], .int .i64 0], H) := fun lo H => by
    have := least_call alA (lo := lo) (h := H)
    rw [cO_A, exA_e] at this
    exact this
  have l2 : ∀ lo H, retCall E (L E) lo false 11 [listE.o (some true) [(some true, [⟨⟨[97]⟩⟩, ⟨⟨[98]⟩⟩]), (some true, [⟨⟨[99]⟩⟩])]] H = some (.tuple #[strE.o (some false) [⟨⟨[97]⟩⟩, ⟨⟨[99]⟩⟩], .int .i64 0], H) := fun lo H => by
    have := least_call alB (lo := lo) (h := H)
    rw [cO_B, exB_e] at this
    exact this
  have l3 : ∀ lo H, retCall E (L E) lo false 11 [listE.o (some true) [(some true, [⟨⟨[97]⟩⟩, ⟨⟨[98]⟩⟩]), (some true, [⟨⟨[97]⟩⟩, ⟨⟨[99]⟩⟩]), (some true, [⟨⟨[98]⟩⟩, ⟨⟨[99]⟩⟩])]] H = some (.tuple #[strE.o (some false) [⟨⟨[97]⟩⟩, ⟨⟨[98]⟩⟩], .int .i64 0], H) := fun lo H => by
    have := least_call alC (lo := lo) (h := H)
    rw [cO_C, exC_e] at this
    exact this
  have l4 : ∀ lo H, retCall E (L E) lo false 11 [listE.o (some true) [(some true, [⟨⟨[97]⟩⟩]), (some true, [])]] H = some (.tuple #[.slice none 0 0, .int .i64 4], H) := fun lo H => by
    have := least_call alD (lo := lo) (h := H)
    rw [cO_D, exD_e] at this
    exact this
  have p3 : ∀ lo st H, retCall E (L E) lo st 13 [listE.o (some true) [(some true, [⟨⟨[97]⟩⟩, ⟨⟨[98]⟩⟩]), (some true, [⟨⟨[97]⟩⟩, ⟨⟨[99]⟩⟩]), (some true, [⟨⟨[98]⟩⟩, ⟨⟨[99]⟩⟩])]] H = some (.tuple #[rowE.o (some false) exP, .int .i64 0], H) := fun lo st H => by
    have := prove_call alC (lo := lo) (st := st) (h := H)
    rw [pO_C, exC_e] at this
    exact this
  have fP : FlP (some false) exP := rows_some (by simp [exP]) (by decide)
  have ck : ∀ lo st H, retCall E (L E) lo st 19 [listE.o (some true) [(some true, [⟨⟨[97]⟩⟩, ⟨⟨[98]⟩⟩]), (some true, [⟨⟨[97]⟩⟩, ⟨⟨[99]⟩⟩]), (some true, [⟨⟨[98]⟩⟩, ⟨⟨[99]⟩⟩])], strE.o (some false) [⟨⟨[97]⟩⟩, ⟨⟨[98]⟩⟩], rowE.o (some false) exP] H = some (.int .i64 0, H) := fun lo st H => by
    have := check_call alC (kc := some false) (c := [sA, sB]) Enc.ok_some (by decide) fP (lo := lo) (st := st) (h := H)
    have e : checkV exC [sA, sB] (exP.map (·.2)) = 0 := exC_k
    rw [e] at this
    exact this
  have ck2 : ∀ lo st H, retCall E (L E) lo st 19 [listE.o (some true) [(some true, [⟨⟨[97]⟩⟩, ⟨⟨[98]⟩⟩]), (some true, [⟨⟨[97]⟩⟩, ⟨⟨[99]⟩⟩]), (some true, [⟨⟨[98]⟩⟩, ⟨⟨[99]⟩⟩])], strE.o (some false) [⟨⟨[97]⟩⟩, ⟨⟨[98]⟩⟩], lst (false && 2 == exP.length) (rowE.vals (exP.take 2))] H = some (.int .i64 19, H) := fun lo st H => by
    have := check_call alC (kc := some false) (c := [sA, sB]) Enc.ok_some (by decide) (kp := some false) (R := exP.take 2) (rows_some (by simp [exP]) (by decide)) (lo := lo) (st := st) (h := H)
    have e : checkV exC [sA, sB] ((exP.take 2).map (·.2)) = 19 := exC_k2
    rw [e] at this
    exact this
  have ht : ∀ lo st H, retCall E (L E) lo st 17 [listE.o (some true) [(some true, [⟨⟨[97]⟩⟩, ⟨⟨[98]⟩⟩]), (some true, [⟨⟨[97]⟩⟩, ⟨⟨[99]⟩⟩]), (some true, [⟨⟨[98]⟩⟩, ⟨⟨[99]⟩⟩])], strE.o (some false) [⟨⟨[97]⟩⟩, ⟨⟨[98]⟩⟩]] H = some (.bool true, H) := fun lo st H => by
    have := hits_call alC (kc := some false) (c := [sA, sB]) Enc.ok_some (by decide) (lo := lo) (st := st) (h := H)
    rw [exC_h] at this
    exact this
  have tx : ∀ lo st H (x : List ByteArray), x.length ≤ 5 → retCall E (L E) lo st 15 [strE.o (some false) x, strE.o (some true) x] H = some (.bool true, H) := fun lo st H x hx => by
    have := texts_call (ka := some false) (kb := some true) (a := x) (b := x) Enc.ok_some Enc.ok_some (by omega) (by omega) (lo := lo) (st := st) (h := H)
    rw [decide_eq_true rfl] at this
    exact this
  have t1 := fun lo st H => tx lo st H [⟨⟨[98]⟩⟩] (by decide)
  have t2 := fun lo st H => tx lo st H [⟨⟨[97]⟩⟩, ⟨⟨[99]⟩⟩] (by decide)
  have t3 := fun lo st H => tx lo st H [⟨⟨[97]⟩⟩, ⟨⟨[98]⟩⟩] (by decide)
  have sp : ∀ lo st H, retCall E (L E) lo st 16 [rowE.o (some false) exP, rowE.o (some true) [(some true, [1, 0, 0, 1]), (some true, [0, 2]), (some true, [0, 1])]] H = some (.bool true, H) := fun lo st H => by
    have := proofs_call (kb := some true) (T := [(some true, [1, 0, 0, 1]), (some true, [0, 2]), (some true, [0, 1])]) fP (rows_some (by simp) (by decide)) (by decide) (lo := lo) (st := st) (h := H)
    rw [show exP.map (·.2) = [(some true, [1, 0, 0, 1]), (some true, [0, 2]), ((some true, [0, 1]) : Option Bool × List Int)].map (·.2) from rfl, decide_eq_true rfl] at this
    exact this
  have lP : ∀ H, lenT .sl H (rowE.o (some false) exP) = some (.int .i64 3) := fun H => rfl
  have sl : ∀ H, sliceT (.sl 42 ⟨some false, some 1⟩) H (rowE.o (some false) exP) none (some (.int .i64 2)) none = some (lst (false && 2 == exP.length) (rowE.vals (exP.take 2))) := fun H => Enc.take_tree (O := rowE) (n := 2) (by decide)
  generalize lst (false && 2 == exP.length) (rowE.vals (exP.take 2)) = VQ at sl ck2
  have mn : aMinMax false [.int .i64 2, .int .i64 3] = some (.int .i64 2) := rfl
  rw [pureCall_fn F8 rfl]
  simp -implicitDefEqProofs [r8, p8, litS0, litS1, litS2, litI2, litI4, litL2, litL3, litR3, l1, l2, l3, l4, p3, t1, t2, t3, sp, ck, ck2, ht, lP, mn, sl]
end Go.Proofs.YtgefjhjmkejjbaaDoor.Bm
namespace Go.Proofs.YtgefjhjmkejjbaaDoor.Bm
open Go Go.RowKit
open Co (ltB ascB rem maskF allF proveF coreF namesF errF followF hitsF lessL)
theorem good_of {A : List (Option Bool × List ByteArray)} (he : errV A = 0) : Co.Good ltB (als A) := (Co.err_good (by decide) (by decide)).1 he
theorem check_len {A : List (Option Bool × List ByteArray)} (he : errV A = 0) {c : List ByteArray} {P : List (List Int)} (h : checkV A c P = 0) : c.length = (coreF ltB (als A)).length := by
  have g := good_of he
  unfold checkV at h
  rw [if_neg (by rw [he]; decide)] at h
  split at h
  · rename_i q
    rw [Bool.and_eq_true] at q
    split at h
    · rename_i q2
      exact Co.follow_core Co.ordB g.ne q.2 q2
    · cases h
  · cases h
theorem check_no {A : List (Option Bool × List ByteArray)} (he : errV A = 0) {c : List ByteArray} {P : List (List Int)} (h : (ascB ltB c && hitsF (als A) c) = false) : checkV A c P = 19 := by
  unfold checkV
  rw [if_neg (by rw [he]; decide), h]; rfl
theorem check_prf {A : List (Option Bool × List ByteArray)} (he : errV A = 0) {c : List ByteArray} (h : (ascB ltB c && hitsF (als A) c) = true) : (coreF ltB (als A)).length ≤ c.length ∧ (checkV A c (proveF (als A) (coreF ltB (als A)).length (allF (als A))) = 0 ↔ c.length = (coreF ltB (als A)).length) := by
  have g := good_of he
  have k := Co.core_is Co.ordB g.ne
  have h2 := (Bool.and_eq_true _ _ ▸ h).2
  refine ⟨k.least c h2, fun q => check_len he q, fun q => ?_⟩
  unfold checkV
  rw [if_neg (by rw [he]; decide), h, if_pos rfl, q, if_pos (Co.prove_core Co.ordB g.pos g.ne)]
theorem check_two {A : List (Option Bool × List ByteArray)} {c : List ByteArray} {P : List (List Int)} (he : errV A = 0) : checkV A c P = 0 ∨ checkV A c P = 19 := by
  unfold checkV
  rw [if_neg (by rw [he]; decide)]
  split
  · split
    · exact .inl rfl
    · exact .inr rfl
  · exact .inr rfl
theorem few_fl {R : RowL} (hR : ∀ x ∈ R, Enc.Ok x.1 x.2) {k : Option Bool} (hk : Enc.Ok k R) (h1 : fewB R = true) (h2 : R.length ≤ 200) : FlP k R := ⟨hk, fun x hx => ⟨hR x hx, by
  have := of_decide_eq_true (List.all_eq_true.1 h1 x hx)
  omega⟩, by omega⟩
theorem bin_eqlB (p q : Bool) : aBin E.P .eql 4 (.bool p) (.bool q) = some (.bool (p == q)) := bin_eql_bool (by kernel_rfl)
theorem small_call {lo : Nat} {st : Bool} {h : Heap} : retCall E (L E) lo st 8 [] h = some (.bool true, h) := by
  have := small_spec
  simp -implicitDefEqProofs [ret0 m8, this]
theorem fewA_call {K : Option Bool} {A : List (Option Bool × List ByteArray)} (hk : Enc.Ok K A) (hrow : ∀ x ∈ A, Enc.Ok x.1 x.2) (hl : A.length ≤ 9223372036854775807) {lo : Nat} {st : Bool} {h : Heap} : retCall E (L E) lo st 9 [listE.o K A] h = some (.bool (fewA A && decide (A.length ≤ 10)), h) := by
  have r1 : ∀ H, reify E.P 8 H (listE.o K A) = some (listE.o K A) := fun H => Enc.o_reify
  have := fewA_spec hk hrow hl
  simp -implicitDefEqProofs [ret0 m9, r1, this]
theorem few_call {k : Option Bool} {R : RowL} (hk : Enc.Ok k R) (hrow : ∀ x ∈ R, Enc.Ok x.1 x.2) (hl : R.length ≤ 9223372036854775807) {lo : Nat} {st : Bool} {h : Heap} : retCall E (L E) lo st 10 [rowE.o k R] h = some (.bool (fewB R && decide (R.length ≤ 200)), h) := by
  have r1 : ∀ H, reify E.P 8 H (rowE.o k R) = some (rowE.o k R) := fun H => Enc.o_reify
  have := few_spec hk hrow hl
  simp -implicitDefEqProofs [ret0 m10, r1, this]
theorem prove_rows {ls : List (List ByteArray)} (h12 : ∀ a ∈ ls, a.length ≤ 12) : ∀ (f o : Nat), f ≤ 100 → ∀ L ∈ proveF ls f o, L.length ≤ 1000
  | 0, _, _, L, h => by cases h
  | f + 1, o, hf, L, h => by
    unfold proveF at h
    cases hp : Co.packF ls o (f + 1) (List.range ls.length) [] with
    | some K =>
      rw [hp] at h
      have h : L = 0 :: K.map Int.ofNat := List.mem_singleton.1 h
      have := Co.pack_len hp
      rw [h, List.length_cons, List.length_map]
      omega
    | none =>
      rw [hp] at h
      have hn : (Co.choicesF ls o (ls.getD (Co.firstF o ls.length 0) [])).length ≤ 12 := by
        have h1 : (Co.choicesF ls o (ls.getD (Co.firstF o ls.length 0) [])).length ≤ (List.range (ls.getD (Co.firstF o ls.length 0) []).length).length := List.length_filter_le _ _
        rw [List.length_range] at h1
        have h2 : (ls.getD (Co.firstF o ls.length 0) []).length ≤ 12 := by
          rw [List.getD_eq_getElem?_getD]
          cases hg : ls[Co.firstF o ls.length 0]? with
          | none => simp
          | some a => exact h12 a (List.mem_of_getElem? hg)
        omega
      rcases List.mem_cons.1 h with h | h
      · rw [h, List.length_cons, List.length_cons, List.length_map]; omega
      · obtain ⟨i, _, hi⟩ := List.mem_flatMap.1 h
        exact prove_rows h12 f _ (by omega) L hi
theorem proof_fl {A : List (Option Bool × List ByteArray)} : FlP (proofO A).1 (proofO A).2 := by
  unfold proofO
  split
  · rename_i he
    have g := good_of he
    obtain ⟨c1, c2⟩ := core_pos he
    refine ⟨Enc.ok_some, fun x hx => ?_, ?_⟩
    · obtain ⟨L, hL, rfl⟩ := List.mem_map.1 hx
      exact ⟨Enc.ok_some, prove_rows g.small _ _ (by omega) L hL⟩
    · unfold prfL
      rw [List.length_map]
      have h1 := prove_len (als A) g.small (coreF ltB (als A)).length (allF (als A))
      have h2 : 13 ^ (coreF ltB (als A)).length ≤ 13 ^ 8 := Nat.pow_le_pow_right (by omega) c2
      have h3 : (13 : Nat) ^ 8 ≤ 1000000000000 := by decide
      omega
  · exact ⟨fun _ => rfl, fun x hx => (by cases hx), Nat.zero_le _⟩
theorem core_ok {A : List (Option Bool × List ByteArray)} : Enc.Ok (coreO A).1 (coreO A).2 ∧ (coreO A).2.length ≤ 8 := by
  unfold coreO
  split
  · rename_i he
    exact ⟨Enc.ok_some, (core_pos he).2⟩
  · exact ⟨fun _ => rfl, Nat.zero_le _⟩
set_option maxHeartbeats 4000000 in
theorem proofs_law {A : List (Option Bool × List ByteArray)} {c : List ByteArray} {R : RowL} (hA : ∀ x ∈ A, Enc.Ok x.1 x.2) (hAl : A.length ≤ 9223372036854775807) (hR : ∀ x ∈ R, Enc.Ok x.1 x.2) (hRl : R.length ≤ 9223372036854775807) (hcl : c.length ≤ 9223372036854775807) :
    ∃ h', L E 5 [listE.o (some false) A, strE.o (some false) c, rowE.o (some false) R] [] 0 = some (.bool true, h') := by
  have fw := fun lo st h => fewA_call (K := some false) Enc.ok_some hA hAl (lo := lo) (st := st) (h := h)
  have fp := fun lo st h => few_call (k := some false) Enc.ok_some hR hRl (lo := lo) (st := st) (h := h)
  have lc : ∀ H, lenT .sl H (strE.o (some false) c) = some (.int .i64 c.length) := fun H => Enc.o_len Enc.ok_some
  have sm := fun lo st h => small_call (lo := lo) (st := st) (h := h)
  rw [L_fn F5 rfl]
  by_cases hq : (fewA A && decide (A.length ≤ 10)) = true ∧ c.length ≤ 14 ∧ (fewB R && decide (R.length ≤ 200)) = true
  case neg =>
    refine ⟨[], ?_⟩
    generalize listE.o (some false) A = VA at *
    generalize strE.o (some false) c = VC at *
    generalize rowE.o (some false) R = VR at *
    cases q1 : (fewA A && decide (A.length ≤ 10))
    · simp only [q1] at fw
      simp -implicitDefEqProofs [r5, p5, sm, fw]
    · simp only [q1] at fw
      by_cases q2 : c.length ≤ 14
      · have q2' : ¬ (14 : Int) < (c.length : Int) := by omega
        have q3 : (fewB R && decide (R.length ≤ 200)) = false := by
          cases q3 : (fewB R && decide (R.length ≤ 200))
          · rfl
          · exact absurd ⟨q1, q2, q3⟩ hq
        simp only [q3] at fp
        simp -implicitDefEqProofs [r5, p5, sm, fw, lc, q2', fp]
      · have q2' : (14 : Int) < (c.length : Int) := by omega
        simp -implicitDefEqProofs [r5, p5, sm, fw, lc, q2']
  obtain ⟨q1, q2, q3⟩ := hq
  have q2' : ¬ (14 : Int) < (c.length : Int) := by omega
  simp only [q1] at fw
  simp only [q3] at fp
  rw [Bool.and_eq_true, decide_eq_true_eq] at q1 q3
  have al := few_al (K := some false) Enc.ok_some hA q1.1 q1.2
  have fl := few_fl hR (k := some false) Enc.ok_some q3.1 q3.2
  have le := fun lo h => least_call al (lo := lo) (h := h)
  have pr := fun lo st h => prove_call al (lo := lo) (st := st) (h := h)
  have c1 := fun lo st h => check_call al (kc := some false) (c := c) Enc.ok_some (by omega) fl (lo := lo) (st := st) (h := h)
  have c2 := fun lo st h => check_call al (kc := some false) (c := c) Enc.ok_some (by omega) (proof_fl (A := A)) (lo := lo) (st := st) (h := h)
  have ht := fun lo st h => hits_call al (kc := some false) (c := c) Enc.ok_some (by omega) (lo := lo) (st := st) (h := h)
  have lo_ : ∀ H, lenT .sl H (strE.o (coreO A).1 (coreO A).2) = some (.int .i64 (coreO A).2.length) := fun H => Enc.o_len core_ok.1
  have hco : errV A = 0 → (coreO A).2 = coreF ltB (als A) := fun he => by unfold coreO; rw [if_pos he]
  have hpo : errV A = 0 → (proofO A).2.map (·.2) = proveF (als A) (coreF ltB (als A)).length (allF (als A)) := fun he => by unfold proofO; rw [if_pos he]; exact prfL_snd _
  have ic : ∀ (i : Nat) (hi : i < c.length), indexAddrT (.sl 9 ⟨some false, some 1⟩) (strE.o (some false) c) (.int .i64 (i : Int)) = some (cptr (.string c[i])) := fun i hi => Enc.index_o Enc.ok_some hi
  have hce : errV A ≠ 0 → ∀ P, checkV A c P = errV A := fun he P => by unfold checkV; rw [if_pos he]
  generalize listE.o (some false) A = VA at *
  generalize strE.o (some false) c = VC at *
  generalize rowE.o (some false) R = VR at *
  generalize strE.o (coreO A).1 (coreO A).2 = VO at *
  generalize rowE.o (proofO A).1 (proofO A).2 = VP at *
  generalize (proofO A).2.map (·.2) = PQ at *
  by_cases he : errV A = 0
  · have hco := hco he
    have hpo := hpo he
    subst hpo
    rw [hco] at lo_
    rw [he] at le pr
    have hone := check_len he (c := c) (P := R.map (·.2))
    have htwo := check_prf he (c := c)
    have hno := fun P => check_no he (c := c) (P := P)
    have hno1 := hno (R.map (·.2))
    have h1 := check_two (A := A) (c := c) (P := R.map (·.2)) he
    have h2 := check_two (A := A) (c := c) (P := proveF (als A) (coreF ltB (als A)).length (allF (als A))) he
    generalize checkV A c (R.map (·.2)) = one at *
    generalize hT : checkV A c (proveF (als A) (coreF ltB (als A)).length (allF (als A))) = two at *
    have hno2 : (ascB ltB c && hitsF (als A) c) = false → two = 19 := fun q => by rw [← hT]; exact hno _ q
    generalize (coreF ltB (als A)).length = cl at *
    refine ⟨[], ?_⟩
    rcases h1 with h1 | h1
    · have hl := hone h1
      subst h1
      have hl1 := eq_true hl
      have hl2 : ((c.length : Int) = (cl : Int)) = True := eq_true (by omega)
      simp -implicitDefEqProofs [r5, p5, sm, fw, lc, q2', fp, le, pr, c1, c2, ht, lo_, hl2]
      rw [LL_for (γ := Bool) (c.drop 1) (hitsF (als A) c) (fun i x => [(14, .bool x), (15, .int .i64 ((i : Int) + 1))]) (fun _ _ => []) (fun i rest x => (.exit 0, [(14, .bool (x && ascB ltB (c.drop i))), (15, undef)], [])) (fun _ _ => True) (by rw [List.length_drop]; omega) trivial]
      · rw [List.drop_zero, Bool.and_comm]
        cases hcv : (ascB ltB c && hitsF (als A) c)
        · have t19 := hno1 hcv
          omega
        · obtain ⟨w1, w2⟩ := htwo hcv
          have w1' : (cl : Int) ≤ (c.length : Int) := by omega
          have w3 : (two = 0) = (c.length = cl) := propext w2
          have w4 : decide (two = 0) = decide ((c.length : Int) = (cl : Int)) := by
            rw [Bool.eq_iff_iff, decide_eq_true_eq, decide_eq_true_eq, w2]; omega
          simp -implicitDefEqProofs [k5_14, lc, lo_, w1', w3, bin_eqlB]
          omega
      · simp -implicitDefEqProofs [k5_14]
      · rfl
      · intro nx i x hi _
        rw [List.length_drop] at hi
        have g1 : ¬ ((i : Int) + 1 < c.length) := by omega
        have e : ascB ltB (c.drop i) = true := by
          have : (c.drop i).length ≤ 1 := by rw [List.length_drop]; omega
          match hd : c.drop i, this with
          | [], _ => rfl
          | [_], _ => rfl
          | _ :: _ :: _, h => simp at h
        simp -implicitDefEqProofs [r5_14, k5_14, lc, g1, e, trim_le]
      · intro nx i v rest x hi hv hd hw _ ih
        have ih := fun x' => ih x' trivial
        rw [List.length_drop] at hi
        have g1 : ((i : Int) + 1 < c.length) := by omega
        have x1 := ic i (by omega)
        have x2 := ic (i + 1) (by omega)
        have w1 : IntKind.i64.wrap (i : Int) = (i : Int) := wrap64 (by omega) (by omega)
        have w2 : IntKind.i64.wrap ((i : Int) + 1 + 1) = (i : Int) + 1 + 1 := wrap64 (by omega) (by omega)
        have ec : (((i + 1 : Nat) : Int)) = (i : Int) + 1 := by omega
        rw [ec] at ih x2
        have e : ascB ltB (c.drop i) = (ltB c[i] c[i + 1] && ascB ltB (c.drop (i + 1))) := by
          rw [List.drop_eq_getElem_cons (show i < c.length by omega), List.drop_eq_getElem_cons (show i + 1 < c.length by omega)]
          rfl
        rw [e]
        simp -implicitDefEqProofs [k5_14] at ih
        generalize c[i] = a0 at *
        generalize c[i + 1] = b0 at *
        cases x
        · simp -implicitDefEqProofs [r5_14, k5_14, lc, g1, w2, trim_le, ih]
        · cases q : ltB a0 b0
          · simp -implicitDefEqProofs [r5_14, k5_14, lc, g1, x1, x2, w1, w2, q, bin_lss_str, trim_le, ih]
          · simp -implicitDefEqProofs [r5_14, k5_14, lc, g1, x1, x2, w1, w2, q, bin_lss_str, trim_le, ih]
    · subst h1
      simp -implicitDefEqProofs [r5, p5, sm, fw, lc, q2', fp, le, pr, c1, c2, ht]
      rw [LL_for (γ := Bool) (c.drop 1) (hitsF (als A) c) (fun i x => [(14, .bool x), (15, .int .i64 ((i : Int) + 1))]) (fun _ _ => []) (fun i rest x => (.exit 0, [(14, .bool (x && ascB ltB (c.drop i))), (15, undef)], [])) (fun _ _ => True) (by rw [List.length_drop]; omega) trivial]
      · rw [List.drop_zero, Bool.and_comm]
        cases hcv : (ascB ltB c && hitsF (als A) c)
        · have t19 := hno2 hcv
          simp -implicitDefEqProofs [k5_14, t19]
        · obtain ⟨w1, w2⟩ := htwo hcv
          have w1' : (cl : Int) ≤ (c.length : Int) := by omega
          have w3 : (two = 0) = (c.length = cl) := propext w2
          have w4 : decide (two = 0) = decide ((c.length : Int) = (cl : Int)) := by
            rw [Bool.eq_iff_iff, decide_eq_true_eq, decide_eq_true_eq, w2]; omega
          simp -implicitDefEqProofs [k5_14, lc, lo_, w1', w3, bin_eqlB]
          omega
      · simp -implicitDefEqProofs [k5_14]
      · rfl
      · intro nx i x hi _
        rw [List.length_drop] at hi
        have g1 : ¬ ((i : Int) + 1 < c.length) := by omega
        have e : ascB ltB (c.drop i) = true := by
          have : (c.drop i).length ≤ 1 := by rw [List.length_drop]; omega
          match hd : c.drop i, this with
          | [], _ => rfl
          | [_], _ => rfl
          | _ :: _ :: _, h => simp at h
        simp -implicitDefEqProofs [r5_14, k5_14, lc, g1, e, trim_le]
      · intro nx i v rest x hi hv hd hw _ ih
        have ih := fun x' => ih x' trivial
        rw [List.length_drop] at hi
        have g1 : ((i : Int) + 1 < c.length) := by omega
        have x1 := ic i (by omega)
        have x2 := ic (i + 1) (by omega)
        have w1 : IntKind.i64.wrap (i : Int) = (i : Int) := wrap64 (by omega) (by omega)
        have w2 : IntKind.i64.wrap ((i : Int) + 1 + 1) = (i : Int) + 1 + 1 := wrap64 (by omega) (by omega)
        have ec : (((i + 1 : Nat) : Int)) = (i : Int) + 1 := by omega
        rw [ec] at ih x2
        have e : ascB ltB (c.drop i) = (ltB c[i] c[i + 1] && ascB ltB (c.drop (i + 1))) := by
          rw [List.drop_eq_getElem_cons (show i < c.length by omega), List.drop_eq_getElem_cons (show i + 1 < c.length by omega)]
          rfl
        rw [e]
        simp -implicitDefEqProofs [k5_14] at ih
        generalize c[i] = a0 at *
        generalize c[i + 1] = b0 at *
        cases x
        · simp -implicitDefEqProofs [r5_14, k5_14, lc, g1, w2, trim_le, ih]
        · cases q : ltB a0 b0
          · simp -implicitDefEqProofs [r5_14, k5_14, lc, g1, x1, x2, w1, w2, q, bin_lss_str, trim_le, ih]
          · simp -implicitDefEqProofs [r5_14, k5_14, lc, g1, x1, x2, w1, w2, q, bin_lss_str, trim_le, ih]
  · refine ⟨[], ?_⟩
    simp only [hce he] at c1 c2
    simp -implicitDefEqProofs [r5, p5, sm, fw, lc, q2', fp, le, pr, c1, c2, he]
end Go.Proofs.YtgefjhjmkejjbaaDoor.Bm
