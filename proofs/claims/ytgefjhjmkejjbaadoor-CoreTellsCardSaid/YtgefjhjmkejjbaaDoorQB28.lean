/-
 Chapter 27: the reference's proofs, walked. Conditions: valid alternatives.
-/
import Derived.Test.YtgefjhjmkejjbaaDoorQB26
import Derived.Test.YtgefjhjmkejjbaaDoorQB27
import Derived.Test.YtgefjhjmkejjbaaDoorQB22
namespace Go.Proofs.YtgefjhjmkejjbaaDoor.Bm
open Go Go.RowKit
open Co (withinR choicesR freeR)
def frB (L : List (List ByteArray)) (o : List Nat) (i : Nat) (v : ByteArray) (k : Nat) (u : ByteArray) : Bool := decide (k = i) || !(withinR L o v u && (decide (k < i) || !withinR L o u v))
def frL (L : List (List ByteArray)) (o : List Nat) (i : Nat) (v : ByteArray) : Nat → List ByteArray → Bool
 | _, [] => true
 | k, u :: r => frB L o i v k u && frL L o i v (k + 1) r
def chL (L : List (List ByteArray)) (o : List Nat) (aa : List ByteArray) : Nat → List ByteArray → List Nat
 | _, [] => []
 | i, v :: r => if frL L o i v 0 aa = true then i :: chL L o aa (i + 1) r else chL L o aa (i + 1) r
theorem frL_all {L : List (List ByteArray)} {o : List Nat} {aa : List ByteArray} {i : Nat} (hi : i < aa.length) : ∀ (r : List ByteArray) (k : Nat), aa.drop k = r → frL L o i aa[i] k r = (List.range' k r.length).all fun k => decide (k = i) || !((match aa[i]?, aa[k]? with | some x, some y => withinR L o x y | _, _ => false) && (decide (k < i) || !(match aa[k]?, aa[i]? with | some x, some y => withinR L o x y | _, _ => false)))
 | [], _, _ => rfl
 | u :: r, k, h => by
  have hk : k < aa.length := by
   rcases Nat.lt_or_ge k aa.length with q | q
   ·exact q
   ·rw [List.drop_eq_nil_of_le q] at h; cases h
  have h1 := List.drop_eq_getElem_cons hk
  rw [h] at h1
  obtain ⟨h2, h3⟩ := List.cons.inj h1
  rw [List.length_cons, List.range'_succ, List.all_cons, ← frL_all hi r (k + 1) h3.symm, List.getElem?_eq_getElem hi, List.getElem?_eq_getElem hk, ← h2]
  rfl
theorem frL_free {L : List (List ByteArray)} {o : List Nat} {aa : List ByteArray} {i : Nat} (hi : i < aa.length) : frL L o i aa[i] 0 aa = freeR L o aa i := by
 rw [frL_all hi aa 0 rfl, ← List.range_eq_range']
 unfold Co.freeR
 refine congrArg (fun p => (List.range aa.length).all p) (funext fun k => ?_)
 rw [List.getElem?_eq_getElem hi]
 cases aa[k]? <;> rfl
theorem chL_eq {L : List (List ByteArray)} {o : List Nat} {aa : List ByteArray} : ∀ (r : List ByteArray) (i : Nat), aa.drop i = r → chL L o aa i r = (List.range' i r.length).filter (freeR L o aa)
 | [], _, _ => rfl
 | v :: r, i, h => by
  have hi : i < aa.length := by
   rcases Nat.lt_or_ge i aa.length with q | q
   ·exact q
   ·rw [List.drop_eq_nil_of_le q] at h; cases h
  have h1 := List.drop_eq_getElem_cons hi
  rw [h] at h1
  obtain ⟨h2, h3⟩ := List.cons.inj h1
  have hf := frL_free (L := L) (o := o) hi
  rw [← h2] at hf
  rw [List.length_cons, List.range'_succ, List.filter_cons, ← chL_eq r (i + 1) h3.symm, ← hf]
  rfl
theorem chL_choices {L : List (List ByteArray)} {o : List Nat} {aa : List ByteArray} : chL L o aa 0 aa = choicesR L o aa := by
 rw [chL_eq aa 0 rfl, ← List.range_eq_range']; rfl
set_option maxHeartbeats 4000000 in
theorem choicesR_spec {K Ko Ka : Option Bool} {A : List (Option Bool × List ByteArray)} {o : List Nat} {aa : List ByteArray} (a : AlOk K A) (hKo : Enc.Ok Ko (castL o)) (hol : o.length ≤ 1000000) (ho : ∀ k ∈ o, k < A.length)
  (hKa : Enc.Ok Ka aa) (hal : aa.length ≤ 1000000) :
  pureCall E.P (L E) 49 [listE.o K A, intE.o Ko (castL o), strE.o Ka aa] = some (intE.o (some false) (castL (choicesR (als A) o aa))) := by
 have lA : ∀ H, lenT .sl H (strE.o Ka aa) = some (.int .i64 aa.length) := fun H => Enc.o_len hKa
 have iA : ∀ (i : Nat) (hi : i < aa.length), indexAddrT (.sl 9 ⟨some false, some 1⟩) (strE.o Ka aa) (.int .i64 (i : Int)) = some (cptr (.string aa[i])) := fun i hi => Enc.index_o hKa hi
 have wc := fun x y lo st h => within_call (x := x) (y := y) a hKo hol ho (lo := lo) (st := st) (h := h)
 have hnew := fun (h : Heap) (σ : Slots) (s : Nat) => newK_nil (P := E.P) (t := 3) (h := h) (σ := σ) (s := s) (n := 0) sInt
 have rR : ∀ x, reifyR E.P [intE.row 3 x] (Enc.sl 0 x) = some (intE.o (some false) x) := fun x => Enc.reifyR_sl (O := intE) (t := 3) rfl sInt aInt
 rw [pureCall_fn F49 rfl, ← chL_choices]
 generalize listE.o K A = VA at *
 generalize intE.o Ko (castL o) = VO at *
 generalize strE.o Ka aa = VX at *
 generalize als A = AL at *
 obtain ⟨R, hR⟩ : ∃ R, R = chL AL o aa 0 aa := ⟨_, rfl⟩
 rw [← hR]
 simp -implicitDefEqProofs [r49, p49, prep_new, hnew]
 rw [LL_for (γ := List Nat) aa [] (fun i x => [(7, Enc.sl 0 (castL x)), (8, .int .i64 (i : Int))]) (fun _ x => [intE.row 3 (castL x)]) (fun i rest x => (.exit 0, [(7, Enc.sl 0 (castL (x ++ chL AL o aa i rest))), (8, undef)], [intE.row 3 (castL (x ++ chL AL o aa i rest))])) (fun i x => x.length ≤ i) (by omega) (Nat.le_refl _)]
 ·rw [List.nil_append, ← hR]
  have rR := rR (castL R)
  generalize Enc.sl 0 (castL R) = VS at *
  simp -implicitDefEqProofs [k49_3, rR]
 ·simp -implicitDefEqProofs [k49_3]; rfl
 ·rfl
 ·intro nx i x hi _
  have e0 : chL AL o aa i [] = [] := rfl
  rw [e0, List.append_nil]
  simp -implicitDefEqProofs [r49_3, k49_3, lA, hi, trim_le]
 ·intro nx i v rest x hi hv hd hw hI ih
  have hI : x.length ≤ i := hI
  have hi2 : ((i : Int) < (aa.length : Int)) := by omega
  have x1 := iA i hi
  rw [hv] at x1
  have e2 : (((i + 1 : Nat) : Int)) = (i : Int) + 1 := by omega
  rw [e2] at ih
  have li1 : ∀ H, buildSliceT (some elInt) false H 1 #[(0, .int .i64 (i : Int))] = some (lst true (intE.vals [(i : Int)]), H) := fun H => Enc.lit (O := intE) (i : Int) rfl rfl rfl
  have ecl : castL x ++ [(i : Int)] = castL (x ++ [i]) := by unfold castL; rw [List.map_append]; rfl
  have ap : appendT (some elInt) [intE.row 3 (castL x)] 0 false (Enc.sl 0 (castL x)) (lst true (intE.vals [(i : Int)])) = some (Enc.sl 0 (castL (x ++ [i])), [intE.row 3 (castL (x ++ [i]))]) := by
   have := Enc.app (O := intE) (el := elInt) (lo := 0) (m := [(i : Int)]) (h := [intE.row 3 (castL x)]) (b := 0) (t := 3) (l := castL x) rfl rfl (Enc.cells_tree (O := intE) (x := true)) (Nat.zero_le _) (by rw [cast_len]; show (x.length + 1) * 8 ≤ _; omega)
   rw [ecl] at this
   exact this
  have ec : chL AL o aa i (v :: rest) = if frL AL o i v 0 aa = true then i :: chL AL o aa (i + 1) rest else chL AL o aa (i + 1) rest := rfl
  rw [ec]
  obtain ⟨F, hF⟩ : ∃ F, F = frL AL o i v 0 aa := ⟨_, rfl⟩
  rw [← hF]
  simp -implicitDefEqProofs [r49_3, k49_3, lA, hi2, trim_le]
  rw [LL_for (γ := Bool) aa true (fun j b => [(9, .bool b), (10, .int .i64 (j : Int))]) (fun _ _ => [intE.row 3 (castL x)]) (fun j rest2 b => (.exit 2, [(9, .bool (b && frL AL o i v j rest2)), (10, undef)], [intE.row 3 (castL x)])) (fun _ _ => True) (by omega) trivial]
  ·rw [Bool.true_and, ← hF]
   cases F
   ·rw [if_neg (by decide)]
    have ih := ih x (by show x.length ≤ i + 1; omega)
    generalize castL (x ++ chL AL o aa (i + 1) rest) = Z at *
    simp -implicitDefEqProofs [k49_3] at ih
    simp -implicitDefEqProofs [k49_7, hw, ih, trim_le]
   ·rw [if_pos rfl]
    have ih := ih (x ++ [i]) (by show (x ++ [i]).length ≤ i + 1; rw [List.length_append, List.length_singleton]; omega)
    rw [List.append_assoc, List.singleton_append] at ih
    generalize castL (x ++ i :: chL AL o aa (i + 1) rest) = Z at *
    simp -implicitDefEqProofs [k49_3] at ih
    simp -implicitDefEqProofs [k49_7, li1, ap, hw, ih, trim_le]
  ·simp -implicitDefEqProofs [k49_7]
  ·rfl
  ·intro nx2 j b hj _
   have e0 : frL AL o i v j [] = true := rfl
   rw [e0, Bool.and_true]
   simp -implicitDefEqProofs [r49_7, k49_7, lA, hj, trim_le]
  ·intro nx2 j u rest2 b hj hu hd2 hw2 _ ih2
   have hj2 : ((j : Int) < (aa.length : Int)) := by omega
   have z1 := iA j hj
   rw [hu] at z1
   have w1 := wc v u
   have w2 := wc u v
   have e3 : (((j + 1 : Nat) : Int)) = (j : Int) + 1 := by omega
   rw [e3] at ih2
   have ef : frL AL o i v j (u :: rest2) = ((decide (j = i) || !(withinR AL o v u && (decide (j < i) || !withinR AL o u v))) && frL AL o i v (j + 1) rest2) := rfl
   rw [ef, ← Bool.and_assoc]
   have ihA := ih2 b trivial
   have ihB := ih2 false trivial
   rw [Bool.false_and] at ihB
   generalize frL AL o i v (j + 1) rest2 = fr at *
   generalize withinR AL o v u = wv at *
   generalize withinR AL o u v = wu at *
   simp -implicitDefEqProofs [k49_7] at ihA ihB
   by_cases h1 : j = i
   ·rw [decide_eq_true h1, Bool.true_or, Bool.and_true]
    subst h1
    simp -implicitDefEqProofs [r49_7, k49_7, lA, hj2, x1, z1, hw2, ihA, trim_le]
   have h1' : ¬ (j : Int) = (i : Int) := by omega
   rw [decide_eq_false h1, Bool.false_or]
   cases wv
   ·rw [Bool.false_and, Bool.not_false, Bool.and_true]
    simp -implicitDefEqProofs [r49_7, k49_7, lA, hj2, h1', x1, z1, w1, hw2, ihA, trim_le]
   rw [Bool.true_and]
   by_cases h2 : j < i
   ·have h2' : (j : Int) < (i : Int) := by omega
    rw [decide_eq_true h2, Bool.true_or, Bool.not_true, Bool.and_false, Bool.false_and]
    simp -implicitDefEqProofs [r49_7, k49_7, lA, hj2, h1', h2', x1, z1, w1, hw2, ihB, trim_le]
   have h2' : ¬ (j : Int) < (i : Int) := by omega
   rw [decide_eq_false h2, Bool.false_or]
   cases wu
   ·rw [Bool.not_false, Bool.not_true, Bool.and_false, Bool.false_and]
    simp -implicitDefEqProofs [r49_7, k49_7, lA, hj2, h1', h2', x1, z1, w1, w2, hw2, ihB, trim_le]
   ·rw [Bool.not_true, Bool.not_false, Bool.and_true]
    simp -implicitDefEqProofs [r49_7, k49_7, lA, hj2, h1', h2', x1, z1, w1, w2, hw2, ihA, trim_le]
theorem choicesR_call {K Ko Ka : Option Bool} {A : List (Option Bool × List ByteArray)} {o : List Nat} {aa : List ByteArray} (a : AlOk K A) (hKo : Enc.Ok Ko (castL o)) (hol : o.length ≤ 1000000) (ho : ∀ k ∈ o, k < A.length)
  (hKa : Enc.Ok Ka aa) (hal : aa.length ≤ 1000000) {lo : Nat} {st : Bool} {h : Heap} :
  retCall E (L E) lo st 49 [listE.o K A, intE.o Ko (castL o), strE.o Ka aa] h = some (intE.o (some false) (castL (choicesR (als A) o aa)), h) := by
 have := choicesR_spec a hKo hol ho hKa hal
 rw [ret1s m49 (by
  rw [List.all_cons, List.all_cons, List.all_cons, List.all_nil, Bool.and_true, Enc.o_set, Enc.o_set, Enc.o_set]; rfl), this]; rfl
theorem openR_call {K Kc : Option Bool} {A : List (Option Bool × List ByteArray)} {c : List ByteArray} (a : AlOk K A) (hKc : Enc.Ok Kc c) (hc : c.length ≤ 1000000) {lo : Nat} {st : Bool} {h : Heap} :
  retCall E (L E) lo st 47 [listE.o K A, strE.o Kc c] h = some (intE.o (some false) (castL (Co.openR (als A) c)), h) := by
 have := open_spec a hKc hc
 rw [ret1s m47 (by
  rw [List.all_cons, List.all_cons, List.all_nil, Bool.and_true, Enc.o_set, Enc.o_set]; rfl), this]; rfl
end Go.Proofs.YtgefjhjmkejjbaaDoor.Bm
namespace Go.Proofs.YtgefjhjmkejjbaaDoor.Bm
open Go Go.RowKit
open Co (memB ltB namesF rem maskF needF allF coreF)
theorem mayR_call {K : Option Bool} {A : List (Option Bool × List ByteArray)} (a : AlOk K A) {lo : Nat} {st : Bool} {h : Heap} : retCall E (L E) lo st 25 [listE.o K A] h = some (.int .i64 (errV A), h) := by
 have r1 : ∀ H, reify E.P 8 H (listE.o K A) = some (listE.o K A) := fun H => Enc.o_reify
 have := may_spec a
 simp -implicitDefEqProofs [ret0 m25, r1, this]
theorem table_call {K Kn : Option Bool} {A : List (Option Bool × List ByteArray)} {ns : List ByteArray} (a : AlOk K A) (h8 : A.length ≤ 8) (hk : Enc.Ok Kn ns) (hn : ns.length ≤ 1000) {lo : Nat} {st : Bool} {h : Heap} :
  retCall E (L E) lo st 27 [listE.o K A, strE.o Kn ns] h = some (rowE.o (some false) (tbO ns.length (2 ^ A.length) (needI (als A) ns)), h) := by
 have := table_spec a h8 hk hn
 rw [ret1s m27 (by
  rw [List.all_cons, List.all_cons, List.all_nil, Bool.and_true, Enc.o_set, Enc.o_set]; rfl), this]; rfl
def lnF (ls : List (List ByteArray)) (r : List ByteArray) (o : Nat) : List ByteArray := (Co.leastF 99 (prs ls r) o).map (·.1)
theorem lnF_zero {ls : List (List ByteArray)} {r : List ByteArray} : lnF ls r 0 = [] := by unfold lnF; rw [Co.least_end]; rfl
theorem lnF_nil {ls : List (List ByteArray)} {o : Nat} : lnF ls [] o = [] := rfl
theorem lnF_cons {ls : List (List ByteArray)} {s : ByteArray} {r : List ByteArray} {o : Nat} : lnF ls (s :: r) o = if rem o (maskF ls s) ≠ o ∧ needF 99 (prs ls (s :: r)) o = 1 + needF 99 (prs ls r) (rem o (maskF ls s)) then s :: lnF ls r (rem o (maskF ls s)) else lnF ls r o := by
 unfold lnF
 rw [show prs ls (s :: r) = (s, maskF ls s) :: prs ls r from rfl, Co.least_cons]
 split <;> rfl
theorem lnF_core {A : List (Option Bool × List ByteArray)} (he : errV A = 0) : lnF (als A) (namesF ltB (als A)) (allF (als A)) = coreF ltB (als A) := by
 rw [← Co.core99 (good_of he)]; rfl
theorem drop_prs {ls : List (List ByteArray)} {ns : List ByteArray} {i : Nat} : (prs ls ns).drop i = prs ls (ns.drop i) := by unfold prs; rw [List.map_drop]
set_option maxHeartbeats 4000000 in
theorem leastR_spec {K : Option Bool} {A : List (Option Bool × List ByteArray)} (a : AlOk K A) :
  pureCall E.P (L E) 12 [listE.o K A] = some (.tuple #[strE.o (coreO A).1 (coreO A).2, .int .i64 (errV A)]) := by
 have mc := fun lo st h => mayR_call a (lo := lo) (st := st) (h := h)
 rw [pureCall_fn F12 rfl]
 by_cases he : errV A = 0
 case neg =>
  have hc : strE.o (coreO A).1 (coreO A).2 = .slice none 0 0 := by
   have e : coreO A = (none, []) := by unfold coreO; rw [if_neg he]
   rw [e]; rfl
  rw [hc]
  generalize listE.o K A = VA at *
  simp -implicitDefEqProofs [r12, p12, mc, he]
 have g := good_of he
 have eal : (als A).length = A.length := List.length_map _
 have h8 : A.length ≤ 8 := by have := g.few; omega
 have h12 : ∀ x ∈ A, x.2.length ≤ 12 := fun x hx => g.small x.2 (List.mem_map.2 ⟨x, hx, rfl⟩)
 have hcr : coreO A = (some false, coreF ltB (als A)) := by unfold coreO; rw [if_pos he]
 have hnl := Co.good_names g
 have ac := fun lo st h => allR_call a h8 h12 (lo := lo) (st := st) (h := h)
 have tc := fun lo st h => table_call (Kn := some false) a h8 Enc.ok_some (show (namesF ltB (als A)).length ≤ 1000 by omega) (lo := lo) (st := st) (h := h)
 have bc := fun s lo st h => bits_call (s := s) a h8 (lo := lo) (st := st) (h := h)
 have hms : ∀ s, maskF (als A) s < 2 ^ 8 := fun s => mask_256 h8 s
 have ecore := lnF_core he
 rw [hcr, he]
 have hp8 : 2 ^ A.length ≤ 256 := Nat.le_trans (Nat.pow_le_pow_right (by omega) h8) (by decide)
 have hp0 : 0 < 2 ^ A.length := Nat.pow_pos (by omega)
 have eall : allF (als A) = 2 ^ A.length - 1 := by unfold Co.allF; rw [eal]
 rw [eall] at ecore
 rw [he] at mc
 generalize coreF ltB (als A) = CR at *
 generalize namesF ltB (als A) = ns at *
 generalize 2 ^ A.length = size at *
 have iT : ∀ (i : Nat), i < ns.length + 1 → indexAddrT (.sl 42 ⟨some false, some 1⟩) (rowE.o (some false) (tbO ns.length size (needI (als A) ns))) (.int .i64 (i : Int)) = some (cptr (intE.o (some false) ((List.range size).map (needI (als A) ns i)))) := fun i hi => by
  rw [Enc.index_o (O := rowE) Enc.ok_some (show i < (tbO ns.length size (needI (als A) ns)).length by unfold tbO; rw [List.length_map, List.length_range]; exact hi)]
  simp only [tbO, List.getElem_map, List.getElem_range]; rfl
 have lT : ∀ (i : Nat) H sz, loadT ⟨some false, sz⟩ H (cptr (intE.o (some false) ((List.range size).map (needI (als A) ns i)))) = some (intE.o (some false) ((List.range size).map (needI (als A) ns i))) := fun i H sz => Enc.load_e (O := rowE) (some false, _)
 have lR : ∀ (i : Nat) H, lenT .sl H (intE.o (some false) ((List.range size).map (needI (als A) ns i))) = some (.int .i64 (size : Int)) := fun i H => by rw [Enc.o_len Enc.ok_some, List.length_map, List.length_range]
 have iR : ∀ (i s : Nat), s < size → indexAddrT (.sl 3 ⟨some false, some 1⟩) (intE.o (some false) ((List.range size).map (needI (als A) ns i))) (.int .i64 (s : Int)) = some (cptr (.int .i64 (needI (als A) ns i s))) := fun i s hs => by
  rw [Enc.index_o (O := intE) Enc.ok_some (show s < ((List.range size).map (needI (als A) ns i)).length by rw [List.length_map, List.length_range]; exact hs)]
  simp only [List.getElem_map, List.getElem_range]; rfl
 have lN : ∀ H, lenT .sl H (strE.o (some false) ns) = some (.int .i64 ns.length) := fun H => Enc.o_len Enc.ok_some
 have iN : ∀ (i : Nat) (hi : i < ns.length), indexAddrT (.sl 9 ⟨some false, some 1⟩) (strE.o (some false) ns) (.int .i64 (i : Int)) = some (cptr (.string ns[i])) := fun i hi => Enc.index_o Enc.ok_some hi
 have hnew := fun (h : Heap) (σ : Slots) (s : Nat) => newK_nil (P := E.P) (t := 9) (h := h) (σ := σ) (s := s) (n := 0) sStr
 have r8 : reify E.P 8 [strE.row 9 CR] (Enc.sl 0 CR) = some (strE.o (some false) CR) := Enc.reify_sl (O := strE) (t := 9) rfl sStr aStr
 have w0 : IntKind.i64.wrap ((size : Int) - 1) = ((size - 1 : Nat) : Int) := (wrap64 (by omega) (by omega)).trans (by omega)
 have iT0 := iT 0 (by omega)
 have iT0' : indexAddrT (.sl 42 ⟨some false, some 1⟩) (rowE.o (some false) (tbO ns.length size (needI (als A) ns))) (.int .i64 0) = some (cptr (intE.o (some false) ((List.range size).map (needI (als A) ns 0)))) := iT0
 generalize hAL : als A = AL at *
 generalize hQ : needI AL ns = Q at *
 generalize rowE.o (some false) (tbO ns.length size Q) = VT at *
 generalize strE.o (some false) ns = VN at *
 generalize listE.o K A = VA at *
 simp -implicitDefEqProofs [r12, p12, mc, ac, tc, iT0', lT, lR, w0, prep_new, hnew]
 rw [LL_for (γ := Nat × List ByteArray) ns (size - 1, []) (fun i c => [(7, .int .i64 (c.1 : Int)), (8, Enc.sl 0 c.2), (9, .int .i64 (i : Int))]) (fun _ c => [strE.row 9 c.2]) (fun i rest c => (.exit 0, [(7, undef), (8, Enc.sl 0 (c.2 ++ lnF AL rest c.1)), (9, undef)], [strE.row 9 (c.2 ++ lnF AL rest c.1)])) (fun i c => c.1 < size ∧ c.2.length ≤ i) (by omega) ⟨by show size - 1 < size; omega, Nat.le_refl _⟩]
 ·rw [List.nil_append, ecore]
  generalize Enc.sl 0 CR = VS at *
  simp -implicitDefEqProofs [k12_9, reifyAll_cons, reifyAll_nil, r8]
 ·simp -implicitDefEqProofs [k12_9]; rfl
 ·rfl
 ·intro nx i c hi _
  rw [lnF_nil, List.append_nil]
  simp -implicitDefEqProofs [r12_9, k12_9, lN, hi, trim_le]
 ·intro nx i s rest c hi hs hd hw hI ih
  obtain ⟨o, x⟩ := c
  obtain ⟨hI1, hI2⟩ := hI
  simp only at hI1 hI2 ih ⊢
  have hi2 : ((i : Int) < (ns.length : Int)) := by omega
  by_cases ho : o = 0
  ·subst ho
   rw [lnF_zero, List.append_nil]
   simp -implicitDefEqProofs [r12_9, k12_9, lN, hi2, trim_le]
  have go : 0 < o := by omega
  have x1 := iN i hi
  rw [hs] at x1
  have bc := bc s
  have hrem := Co.rem_le o (maskF AL s)
  have br := bin_remI (P := E.P) (t := 3) (a := o) (b := maskF AL s) (by omega) (by have := hms s; omega)
  have e2 : (((i + 1 : Nat) : Int)) = (i : Int) + 1 := by omega
  rw [lnF_cons]
  have t1 := iT i (by omega)
  have t2 := iT (i + 1) (by omega)
  have l1 := lT i
  have l2 := lT (i + 1)
  have q1 := iR i o hI1
  have q2 := iR (i + 1) (rem o (maskF AL s)) (by omega)
  have eq1 : Q i o = ((needF 99 (prs AL (s :: rest)) o : Nat) : Int) := by rw [← hQ]; unfold needI; rw [drop_prs, hd]
  have hd2 : ns.drop (i + 1) = rest := by
   rw [List.drop_eq_getElem_cons hi] at hd
   exact (List.cons.inj hd).2
  have eq2 : Q (i + 1) (rem o (maskF AL s)) = ((needF 99 (prs AL rest) (rem o (maskF AL s)) : Nat) : Int) := by rw [← hQ]; unfold needI; rw [drop_prs, hd2]
  have bd := Co.need_inf 99 (prs AL rest) (rem o (maskF AL s))
  rw [eq1] at q1
  rw [eq2] at q2
  have ih1 := ih (rem o (maskF AL s), x ++ [s]) ⟨by show rem o (maskF AL s) < size; omega, by show (x ++ [s]).length ≤ i + 1; simp; omega⟩
  have ih2 := ih (o, x) ⟨hI1, by show x.length ≤ i + 1; omega⟩
  simp only [List.append_assoc, List.singleton_append] at ih1
  simp only at ih2
  generalize maskF AL s = mk at *
  generalize rem o mk = rm at *
  generalize needF 99 (prs AL (s :: rest)) o = n1 at *
  generalize needF 99 (prs AL rest) rm = n2 at *
  have w2 : IntKind.i64.wrap (1 + (n2 : Int)) = ((1 + n2 : Nat) : Int) := (wrap64 (by omega) (by omega)).trans (by omega)
  have li1 : ∀ H, buildSliceT (some elStr) false H 1 #[(0, .string s)] = some (lst true (strE.vals [s]), H) := fun H => Enc.lit (O := strE) s rfl rfl rfl
  have ap : appendT (some elStr) [strE.row 9 x] 0 false (Enc.sl 0 x) (lst true (strE.vals [s])) = some (Enc.sl 0 (x ++ [s]), [strE.row 9 (x ++ [s])]) :=
   Enc.app (O := strE) (el := elStr) (lo := 0) (m := [s]) (h := [strE.row 9 x]) (b := 0) (t := 9) (l := x) rfl rfl (Enc.cells_tree (O := strE) (x := true)) (Nat.zero_le _) (by show (x.length + 1) * 16 ≤ _; omega)
  rw [e2] at ih1 ih2 t2
  have w3 : IntKind.i64.wrap ((i : Int) + 1) = (i : Int) + 1 := hw
  generalize intE.o (some false) (List.map (Q i) (List.range size)) = R1 at *
  generalize intE.o (some false) (List.map (Q (i + 1)) (List.range size)) = R2 at *
  simp -implicitDefEqProofs [k12_9] at ih1 ih2
  by_cases h1 : rm = o
  ·rw [if_neg fun q => q.1 h1]
   have h1' : (rm : Int) = (o : Int) := by omega
   simp -implicitDefEqProofs [r12_9, k12_9, lN, hi2, go, x1, bc, br, h1', hw, ih2, trim_le]
  have h1' : ¬ (rm : Int) = (o : Int) := by omega
  by_cases h2 : n1 = 1 + n2
  ·rw [if_pos ⟨h1, h2⟩]
   have h2' : (n1 : Int) = ((1 + n2 : Nat) : Int) := by omega
   generalize ((1 + n2 : Nat) : Int) = n3 at *
   simp -implicitDefEqProofs [r12_9, k12_9, lN, hi2, go, x1, bc, br, h1', t1, t2, l1, l2, q1, q2, w2, h2', li1, ap, hw, ih1, trim_le]
  ·rw [if_neg fun q => h2 q.2]
   have h2' : ¬ (n1 : Int) = ((1 + n2 : Nat) : Int) := by omega
   generalize ((1 + n2 : Nat) : Int) = n3 at *
   simp -implicitDefEqProofs [r12_9, k12_9, lN, hi2, go, x1, bc, br, h1', t1, t2, l1, l2, q1, q2, w2, h2', hw, ih2, trim_le]
theorem leastR_call {K : Option Bool} {A : List (Option Bool × List ByteArray)} (a : AlOk K A) {lo : Nat} {st : Bool} {h : Heap} :
  retCall E (L E) lo st 12 [listE.o K A] h = some (.tuple #[strE.o (coreO A).1 (coreO A).2, .int .i64 (errV A)], h) := by
 have := leastR_spec a
 rw [ret1s m12 (by
  rw [List.all_cons, List.all_nil, Bool.and_true]
  exact Enc.o_set), this]; rfl
end Go.Proofs.YtgefjhjmkejjbaaDoor.Bm
namespace Go.Proofs.YtgefjhjmkejjbaaDoor.Bm
open Go Go.RowKit
open Co (openR packR packO choicesR proveR)
theorem flat_le {α β : Type} {B : Nat} (G : α → List β) : ∀ (m : List α), (∀ i, (G i).length ≤ B) → (m.flatMap G).length ≤ m.length * B
 | [], _ => Nat.zero_le _
 | i :: m, h => by
  have h1 := h i
  have h2 := flat_le G m h
  rw [List.flatMap_cons, List.length_append, List.length_cons, Nat.add_mul, Nat.one_mul]
  omega
theorem proveR_eq2 (l : List (List ByteArray)) (f : Nat) (c : List ByteArray) : proveR l (f + 1) c = if packR l (f + 1) (openR l c) [] ≠ [] ∨ openR l c = [] ∨ f = 0 then [0 :: (packR l (f + 1) (openR l c) []).map Int.ofNat]
  else (1 :: (((openR l c).headD 0 : Nat) : Int) :: (choicesR l (openR l c) (l.getD ((openR l c).headD 0) [])).map Int.ofNat) ::
   (choicesR l (openR l c) (l.getD ((openR l c).headD 0) [])).flatMap fun i => ((l.getD ((openR l c).headD 0) [])[i]?.map fun s => proveR l f (c ++ [s])).getD [] := by
 conv => lhs; unfold Co.proveR
 split
 ·rfl
 ·refine congrArg (List.cons _) (congrArg (fun p => List.flatMap p _) (funext fun i => ?_))
  cases (l.getD ((openR l c).headD 0) [])[i]? <;> rfl
theorem proveR_len {l : List (List ByteArray)} (h12 : ∀ a ∈ l, a.length ≤ 12) : ∀ (f : Nat) (c : List ByteArray), (proveR l f c).length ≤ 13 ^ f
 | 0, _ => Nat.le_refl _
 | f + 1, c => by
  have hp : 0 < 13 ^ f := Nat.pow_pos (by omega)
  unfold Co.proveR
  split
  ·rw [List.length_singleton, Nat.pow_succ]; omega
  ·have hn : (choicesR l (openR l c) (l.getD ((openR l c).headD 0) [])).length ≤ 12 := by
    have h1 : (choicesR l (openR l c) (l.getD ((openR l c).headD 0) [])).length ≤ (List.range (l.getD ((openR l c).headD 0) []).length).length := List.length_filter_le _ _
    rw [List.length_range] at h1
    have h2 : (l.getD ((openR l c).headD 0) []).length ≤ 12 := by
     rw [List.getD_eq_getElem?_getD]
     cases hg : l[(openR l c).headD 0]? with
     | none => exact Nat.zero_le _
     | some a => exact h12 a (List.mem_of_getElem? hg)
    omega
   have k2 : (choicesR l (openR l c) (l.getD ((openR l c).headD 0) [])).length * 13 ^ f ≤ 12 * 13 ^ f := Nat.mul_le_mul_right _ hn
   rw [List.length_cons, Nat.pow_succ]
   refine Nat.le_trans (Nat.succ_le_succ (Nat.le_trans (flat_le _ _ fun i => ?_) k2)) (by omega)
   cases (l.getD ((openR l c).headD 0) [])[i]? with
   | none => exact Nat.zero_le _
   | some s => exact proveR_len h12 f (c ++ [s])
theorem proveR_ne {l : List (List ByteArray)} : ∀ (f : Nat) (c : List ByteArray), proveR l f c ≠ []
 | 0, _ => by unfold Co.proveR; simp
 | f + 1, c => by unfold Co.proveR; split <;> simp
theorem frzAll3 {P : Program} {lo : Nat} {v1 v2 v3 u2 : Value} {h h' : Heap} (h1 : ∀ h, freezeV P depth lo h v1 = some (v1, h)) (h2 : freezeV P depth lo h v2 = some (u2, h')) (h3 : ∀ h, freezeV P depth lo h v3 = some (v3, h)) :
  frzAll P lo [v1, v2, v3] h = some ([v1, u2, v3], h') := by
 unfold frzAll
 simp [h1, h2, h3]
theorem reify_rowsR {h : Heap} {b g cap : Nat} {sp : Option Nat} {L0 : List Int} {R : RowL} (hb : h[b]? = some (.cells 42 (Enc.sl 0 L0 :: rowE.vals R) g)) (hs : stampOk sp g (R.length + 1) = true) (h0 : h[0]? = some (intE.row 3 L0)) :
  reifyR E.P h (.slice (some ⟨b, 0, sp⟩) (R.length + 1) cap) = some (rowE.o (some false) ((some false, L0) :: R)) := by
 have hl : (Enc.sl 0 L0 :: rowE.vals R).length = R.length + 1 := by rw [List.length_cons, Enc.vals_len]
 rw [reifyR_slice, reify_slice, if_neg (by omega)]
 show reifyS E.P 7 h h[b]? _ _ = _
 rw [hb, reifyS_cells, sInts, Option.bind_some, if_pos ⟨by rw [hl]; exact hs, Nat.one_pos, by rw [hl]; simp⟩, List.drop_zero, List.take_of_length_le (by rw [hl]; omega)]
 have hns : (Enc.sl 0 L0 :: rowE.vals R).all (settled 8) = false := rfl
 have key : ∀ (l : RowL), mapR E.P 7 h (rowE.vals l) = some (rowE.vals l) := by
  intro l
  induction l with
  | nil => rfl
  | cons x l ih =>
   show mapR E.P 7 h (rowE.e x :: rowE.vals l) = _
   rw [mapR_cons, show reify E.P 7 h (rowE.e x) = some (rowE.e x) from Enc.o_reify, Option.bind_some, ih]; rfl
 rw [reifyC_map hns, mapR_cons, Enc.reify_sl (O := intE) (t := 3) h0 sInt aInt, Option.bind_some, key, Option.map_some, Option.bind_some, elems_one aInts sInts]
 rfl
def pr0 (L0 : List Int) : Heap := [intE.row 3 L0, .cells 42 [Enc.sl 0 L0] 0]
def pr1 (L0 : List Int) (R : RowL) : Heap := [intE.row 3 L0, .cells 42 [Enc.sl 0 L0] 0, .dead, .cells 42 (Enc.sl 0 L0 :: rowE.vals R) 1]
def prV (R : RowL) : Value := .slice (some ⟨3, 0, some (R.length + 1)⟩) (R.length + 1) (R.length + 1)
theorem app_pr0 {L0 : List Int} {x : Bool} {R : RowL} (hne : R ≠ []) (hb : R.length ≤ 1000000000000) : appendT (some elRow) (pr0 L0 ++ [.dead]) 0 false (.slice (some ⟨1, 0, none⟩) 1 1) (rowE.o (some x) R) = some (prV R, pr1 L0 R) := by
 have hl : R.length ≠ 0 := fun e => hne (List.eq_nil_of_length_eq_zero e)
 rw [append_slice]
 show appS elRow _ 0 false _ _ _ (some (.cells 42 [Enc.sl 0 L0] 0)) (sliceCells _ 1 (lst x (rowE.vals R))) = _
 rw [Enc.cells_tree (O := rowE)]
 unfold appS
 simp only [Option.bind_some]
 rw [if_neg (by omega), if_pos (by show (1 + R.length) * 24 ≤ _; omega)]
 show (if 0 + 1 * 1 ≤ 1 then _ else _) = _
 rw [if_pos (by omega)]
 unfold prV
 rw [Nat.add_comm 1 R.length]
 show some (Value.slice (some ⟨3, 0, some ([Enc.sl 0 L0] ++ rowE.vals R).length⟩) (R.length + 1) (R.length + 1), pr0 L0 ++ [.dead] ++ [.cells 42 ([Enc.sl 0 L0] ++ rowE.vals R) 1]) = _
 rw [show ([Enc.sl 0 L0] ++ rowE.vals R).length = R.length + 1 from by rw [List.singleton_append, List.length_cons, Enc.vals_len]]
 rfl
theorem app_pr1 {L0 : List Int} {x : Bool} {R R2 : RowL} (hne : R2 ≠ []) (hb : R.length + R2.length ≤ 1000000000000) : appendT (some elRow) (pr1 L0 R ++ [.dead]) 0 false (prV R) (rowE.o (some x) R2) = some (prV (R ++ R2), pr1 L0 (R ++ R2) ++ [.dead]) := by
 have hl : R2.length ≠ 0 := fun e => hne (List.eq_nil_of_length_eq_zero e)
 unfold prV
 rw [append_slice]
 show appS elRow _ 0 false _ _ _ (some (.cells 42 (Enc.sl 0 L0 :: rowE.vals R) 1)) (sliceCells _ 1 (lst x (rowE.vals R2))) = _
 rw [Enc.cells_tree (O := rowE)]
 have hr : (Enc.sl 0 L0 :: rowE.vals R).length = R.length + 1 := by rw [List.length_cons, Enc.vals_len]
 refine (appS_grown (el := elRow) (m := R2.length) (g := 0) (b := 3) hl (by rw [hr]) rfl rfl (by rw [hr]; omega) (Nat.zero_le _) (by show (R.length + 1 + R2.length) * 24 ≤ _; omega)).trans ?_
 have e1 : Enc.sl 0 L0 :: rowE.vals R ++ rowE.vals R2 = Enc.sl 0 L0 :: rowE.vals (R ++ R2) := by rw [Enc.vals_app]; rfl
 rw [e1, show (Enc.sl 0 L0 :: rowE.vals (R ++ R2)).length = (R ++ R2).length + 1 from by rw [List.length_cons, Enc.vals_len], List.length_append, show R.length + 1 + R2.length = R.length + R2.length + 1 by omega]
 rfl
theorem trim_no {n : Nat} {vs : List Value} {h : Heap} (h1 : vs.all (below 8 n) = false) : trim n vs h = h := by
 have h1 : vs.all (below depth n) = false := h1
 unfold Bm.trim
 rw [h1]
 split
 ·rfl
 ·rw [Bool.false_and, if_neg (by decide)]
theorem pr_below {L0 : List Int} {R : RowL} : (pr1 L0 R).all (belowO 4) = true := by
 unfold pr1
 have h1 : belowO 4 (intE.row 3 L0) = true := Enc.row_bel
 have h2 : (rowE.vals R).all (below 8 4) = true := by
  rw [List.all_eq_true]
  intro v hv
  obtain ⟨x, _, rfl⟩ := List.mem_map.1 hv
  exact Enc.o_bel (d := 7)
 have h3 : below 8 4 (Enc.sl 0 L0) = true := rfl
 simp only [List.all_cons, List.all_nil, Bool.and_true, h1, Bool.true_and, belO_cells, h2, h3]
 rfl
theorem trim_pr1 {L0 : List Int} {R : RowL} {vs : List Value} (h : vs.all (below 8 4) = true) : trim 4 vs (pr1 L0 R ++ [.dead]) = pr1 L0 R := by
 have e : (pr1 L0 R ++ [AObj.dead]).take 4 = pr1 L0 R := rfl
 have := trim_cut (h := pr1 L0 R ++ [AObj.dead]) (n := 4) (vs := vs) (by show ¬ 5 ≤ 4; decide) h (by rw [e]; exact pr_below)
 rw [this, e]
def PrvR (K : Option Bool) (A : List (Option Bool × List ByteArray)) (f : Nat) (c : List ByteArray) : Prop := ∀ (Kc : Option Bool), Enc.Ok Kc c → ∃ (k : Bool) (R : RowL), R.map (·.2) = proveR (als A) (f + 1) c ∧ (∀ x ∈ R, Enc.Ok x.1 x.2) ∧
  pureCall E.P (L E) 30 [listE.o K A, strE.o Kc c, .int .i64 (f : Int)] = some (rowE.o (some k) R)
set_option maxHeartbeats 4000000 in
theorem proveR_step {K : Option Bool} {A : List (Option Bool × List ByteArray)} (a : AlOk K A) (he : errV A = 0) {f : Nat} {c : List ByteArray} (hf : f ≤ 8) (hc : c.length ≤ 1000) (ih : ∀ f' s, f = f' + 1 → PrvR K A f' (c ++ [s])) : PrvR K A f c := by
 intro Kc hKc
 have g := good_of he
 have eal : (als A).length = A.length := List.length_map _
 have h8 : A.length ≤ 8 := by have := g.few; omega
 have h12 : ∀ x ∈ als A, x.length ≤ 12 := g.small
 have hne := g.ne
 have oc_ := fun lo st h => openR_call a hKc (by omega) (lo := lo) (st := st) (h := h)
 have hop : ∀ k ∈ openR (als A) c, k < A.length := fun k hk => by
  have := List.mem_range.1 (List.mem_filter.1 hk).1
  omega
 have hopl : (openR (als A) c).length ≤ 8 := by
  have h1 : (openR (als A) c).length ≤ (List.range (als A).length).length := List.length_filter_le _ _
  rw [List.length_range] at h1
  omega
 have pk := fun lo h => packR_call (Ko := some false) (n := f + 1) a Enc.ok_some hop (by omega) (lo := lo) (h := h)
 have wf : IntKind.i64.wrap ((f : Int) + 1) = ((f + 1 : Nat) : Int) := (wrap64 (by omega) (by omega)).trans (by omega)
 have hpe : Enc.Ok (packO (als A) (f + 1) (openR (als A) c) (none, [])).1 (castL (packR (als A) (f + 1) (openR (als A) c) [])) := by
  have := packO_enc (l := als A) (n := f + 1) (r := openR (als A) c) (g := (none, [])) fun _ => rfl
  rw [Co.packO_snd] at this
  exact this
 have hpl : (packR (als A) (f + 1) (openR (als A) c) []).length ≤ 8 := by
  by_cases q : packR (als A) (f + 1) (openR (als A) c) [] = []
  ·rw [q]; exact Nat.zero_le _
  ·have e := Co.packO_snd (als A) (f + 1) (openR (als A) c) (none, [])
   have := (packO_len (l := als A) (n := f + 1) (r := openR (als A) c) (g := (none, [])) (by rw [e]; exact q)).1
   rw [e] at this
   simp only [List.length_nil] at this
   omega
 have eP := proveR_eq2 (als A) f c
 have hTl := proveR_len h12 (f + 1) c
 rw [eP] at hTl ⊢
 have choE := Co.openR_eq (als A) c
 have hwi := Co.left_within (als A) c
 obtain ⟨op, hopE⟩ : ∃ op, op = openR (als A) c := ⟨_, rfl⟩
 rw [← hopE] at oc_ hop hopl pk hpe hpl hTl choE ⊢
 have lOp : ∀ H, lenT .sl H (intE.o (some false) (castL op)) = some (.int .i64 op.length) := fun H => lenI Enc.ok_some
 obtain ⟨pr, hpr⟩ : ∃ pr, pr = packR (als A) (f + 1) op [] := ⟨_, rfl⟩
 rw [← hpr] at pk hpe hpl hTl ⊢
 have lPr : ∀ H, lenT .sl H (intE.o (packO (als A) (f + 1) op (none, [])).1 (castL pr)) = some (.int .i64 pr.length) := fun H => lenI hpe
 obtain ⟨kp, hkp⟩ : ∃ kp, kp = (packO (als A) (f + 1) op (none, [])).1 := ⟨_, rfl⟩
 rw [← hkp] at pk hpe lPr
 rw [pureCall_fn F30 rfl]
 have li0 : ∀ H, buildSliceT (some elInt) false H 1 #[(0, .int .i64 0)] = some (lst true (intE.vals [0]), H) := fun H => lit1 H 0
 by_cases hq : pr ≠ [] ∨ op = [] ∨ f = 0
 ·rw [if_pos hq]
  have gate : (decide (0 < pr.length) = true ∨ decide (op.length = 0) = true ∨ decide (f < 1) = true) := by
   rcases hq with q | q | q
   ·exact .inl (decide_eq_true (List.length_pos_iff.2 q))
   ·exact .inr (.inl (by rw [q]; rfl))
   ·exact .inr (.inr (by rw [q]; rfl))
  by_cases hp0 : pr = []
  ·subst hp0
   refine ⟨true, [(some true, [0])], rfl, fun x hx => by rw [List.mem_singleton.1 hx]; exact Enc.ok_some, ?_⟩
   have ap : ∀ H lo, appendT (some elInt) H lo false (lst true (intE.vals [0])) (intE.o kp (castL [])) = some (lst true (intE.vals [0]), H) := fun H lo => by
    rw [append_lst, Enc.cells_o (O := intE) hpe]; rfl
   have bl : ∀ H, buildSliceT (some elRow) false H 1 #[(0, lst true (intE.vals [0]))] = some (rowE.o (some true) [(some true, [0])], H) := fun H => Enc.lit (O := rowE) (el := elRow) (some true, [0]) rfl rfl rfl
   have rr : ∀ H, reifyR E.P H (rowE.o (some true) [(some true, [0])]) = some (rowE.o (some true) [(some true, [0])]) := fun H => Enc.o_reifyR
   generalize rowE.o (some true) [(some true, [0])] = VR at *
   generalize lst true (intE.vals [0]) = V0 at *
   generalize intE.o kp (castL []) = VP at *
   generalize intE.o (some false) (castL op) = VO at *
   generalize listE.o K A = VA at *
   generalize strE.o Kc c = VC at *
   by_cases h1 : op.length = 0
   ·simp -implicitDefEqProofs [r30, p30, oc_, wf, pk, lPr, lOp, h1, li0, ap, bl, rr, -Int.natCast_add]
   ·have h0 : f = 0 := by
     rcases gate with q | q | q
     ·exact absurd q (by decide)
     ·exact absurd (of_decide_eq_true q) h1
     ·have := of_decide_eq_true q; omega
    subst h0
    have wf' : IntKind.i64.wrap 1 = 1 := wrap64 (by omega) (by omega)
    have h1' : ¬ (op.length : Int) = 0 := by omega
    simp -implicitDefEqProofs at pk
    simp -implicitDefEqProofs [r30, p30, oc_, wf', pk, lPr, lOp, h1, h1', li0, ap, bl, rr]
  ·have hpl0 : 0 < pr.length := List.length_pos_iff.2 hp0
   have hpc : castL pr ≠ [] := fun e => hp0 (by rw [show castL pr = pr.map Int.ofNat from rfl] at e; exact List.map_eq_nil_iff.1 e)
   refine ⟨false, [(some false, 0 :: castL pr)], rfl, fun x hx => by rw [List.mem_singleton.1 hx]; exact Enc.ok_some, ?_⟩
   have ap : appendT (some elInt) [] 0 false (lst true (intE.vals [0])) (intE.o kp (castL pr)) = some (Enc.sl 0 (0 :: castL pr), [intE.row 3 (0 :: castL pr)]) :=
    Enc.app_tree (O := intE) (el := elInt) (l := [0]) (m := castL pr) rfl (Enc.cells_o hpe) hpc (by rw [cast_len]; show (1 + pr.length) * 8 ≤ _; omega)
   have bl : buildSliceT (some elRow) false [intE.row 3 (0 :: castL pr)] 1 #[(0, Enc.sl 0 (0 :: castL pr))] = some (.slice (some ⟨1, 0, none⟩) 1 1, pr0 (0 :: castL pr)) := by
    rw [build_one' (by rfl) rfl rfl, if_neg (by decide), if_neg (by
     show ¬ false = true
     decide)]
    rfl
   have rr : reifyR E.P (pr0 (0 :: castL pr)) (.slice (some ⟨1, 0, none⟩) 1 1) = some (rowE.o (some false) [(some false, 0 :: castL pr)]) := reify_rowsR (b := 1) (g := 0) (cap := 1) (sp := none) (L0 := 0 :: castL pr) (R := []) rfl rfl rfl
   generalize rowE.o (some false) [(some false, 0 :: castL pr)] = VR at *
   generalize pr0 (0 :: castL pr) = HP at *
   generalize Enc.sl 0 (0 :: castL pr) = VS at *
   generalize intE.row 3 (0 :: castL pr) = RS at *
   generalize lst true (intE.vals [0]) = V0 at *
   generalize intE.o kp (castL pr) = VP at *
   generalize intE.o (some false) (castL op) = VO at *
   generalize listE.o K A = VA at *
   generalize strE.o Kc c = VC at *
   simp -implicitDefEqProofs [r30, p30, oc_, wf, pk, lPr, lOp, hpl0, li0, ap, bl, rr, -Int.natCast_add]
 ·rw [if_neg hq] at hTl ⊢
  have hp0 : pr = [] := Classical.byContradiction fun q => hq (.inl q)
  have ho0 : op ≠ [] := fun q => hq (.inr (.inl q))
  have hf0 : f ≠ 0 := fun q => hq (.inr (.inr q))
  obtain ⟨f', rfl⟩ : ∃ f', f = f' + 1 := ⟨f - 1, by omega⟩
  subst hp0
  obtain ⟨i0, ops, hops⟩ := List.exists_cons_of_ne_nil ho0
  have hi0 : i0 < A.length := hop i0 (by rw [hops]; exact List.mem_cons_self)
  have hhd : op.headD 0 = i0 := by rw [hops]; rfl
  rw [hhd, als_get A hi0] at hTl ⊢
  have hai := List.getElem_mem hi0
  have hka := a.row _ hai
  have hsm : A[i0].2.length ≤ 12 := h12 _ (List.mem_map.2 ⟨_, hai, rfl⟩)
  have hane : A[i0].2 ≠ [] := hne _ (List.mem_map.2 ⟨_, hai, rfl⟩)
  have cc := fun lo st h => choicesR_call (Ko := some false) (Ka := A[i0].1) (aa := A[i0].2) a Enc.ok_some (by omega) hop hka (by omega) (lo := lo) (st := st) (h := h)
  have hcn : choicesR (als A) op A[i0].2 ≠ [] := by
   rw [choE, Co.choicesR_eq _ hwi]
   exact Co.choices_ne hane
  have hcl : ∀ i ∈ choicesR (als A) op A[i0].2, i < A[i0].2.length := fun i hi => List.mem_range.1 (List.mem_filter.1 hi).1
  have hnl : (choicesR (als A) op A[i0].2).length ≤ 12 := by
   have h1 : (choicesR (als A) op A[i0].2).length ≤ (List.range A[i0].2.length).length := List.length_filter_le _ _
   rw [List.length_range] at h1
   omega
  have iA := Enc.index_o (O := listE) (t := 23) (k := .i64) a.k hi0
  have lA : ∀ h sz, loadT ⟨some false, sz⟩ h (cptr (listE.e A[i0])) = some (strE.o A[i0].1 A[i0].2) := fun h sz => Enc.load_e (O := listE) _
  have iO : indexAddrT (.sl 3 ⟨some false, some 1⟩) (intE.o (some false) (castL op)) (.int .i64 0) = some (cptr (.int .i64 (i0 : Int))) := by
   have := Enc.index_o (O := intE) (t := 3) (k := .i64) (x := some false) (l := castL op) Enc.ok_some (i := 0) (by rw [cast_len]; exact List.length_pos_iff.2 ho0)
   have e : (castL op)[0]'(by rw [cast_len]; exact List.length_pos_iff.2 ho0) = (i0 : Int) := by simp only [hops]; rfl
   rw [e] at this
   exact this
  have as_ : ∀ (i : Nat) (hi : i < A[i0].2.length), indexAddrT (.sl 9 ⟨some false, some 1⟩) (strE.o A[i0].1 A[i0].2) (.int .i64 (i : Int)) = some (cptr (.string A[i0].2[i])) := fun i hi => Enc.index_o hka hi
  generalize hn : choicesR (als A) op A[i0].2 = n at *
  have an : ∀ (i : Nat) (hi : i < n.length), indexAddrT (.sl 3 ⟨some false, some 1⟩) (intE.o (some false) (castL n)) (.int .i64 (i : Int)) = some (cptr (.int .i64 (n[i] : Int))) := fun i hi => by
   rw [Enc.index_o Enc.ok_some (by rw [cast_len]; exact hi), cast_get hi]; rfl
  have ln : ∀ H, lenT .sl H (intE.o (some false) (castL n)) = some (.int .i64 n.length) := fun H => lenI Enc.ok_some
  have hncl : castL n ≠ [] := fun e => hcn (by rw [show castL n = n.map Int.ofNat from rfl] at e; exact List.map_eq_nil_iff.1 e)
  -- what the calls return
  have ex : ∀ s, ∃ kR : Bool × RowL, kR.2.map (·.2) = proveR (als A) (f' + 1) (c ++ [s]) ∧ (∀ x ∈ kR.2, Enc.Ok x.1 x.2) ∧ pureCall E.P (L E) 30 [listE.o K A, strE.o (some false) (c ++ [s]), .int .i64 (f' : Int)] = some (rowE.o (some kR.1) kR.2) := fun s => by
   obtain ⟨k, R, h1, h2, h3⟩ := ih f' s rfl (some false) Enc.ok_some
   exact ⟨(k, R), h1, h2, h3⟩
  obtain ⟨G, hG⟩ : ∃ G : ByteArray → Bool × RowL, ∀ s, (G s).2.map (·.2) = proveR (als A) (f' + 1) (c ++ [s]) ∧ (∀ x ∈ (G s).2, Enc.Ok x.1 x.2) ∧ pureCall E.P (L E) 30 [listE.o K A, strE.o (some false) (c ++ [s]), .int .i64 (f' : Int)] = some (rowE.o (some (G s).1) (G s).2) :=
   ⟨fun s => Classical.choose (ex s), fun s => Classical.choose_spec (ex s)⟩
  obtain ⟨Q, hQ⟩ : ∃ Q : Nat → RowL, Q = fun i => (A[i0].2[i]?.map fun s => (G s).2).getD [] := ⟨_, rfl⟩
  have hQm : ∀ m : List Nat, (m.flatMap Q).map (·.2) = m.flatMap fun i => (A[i0].2[i]?.map fun s => proveR (als A) (f' + 1) (c ++ [s])).getD [] := by
   intro m
   rw [List.map_flatMap]
   refine congrArg (fun p => m.flatMap p) (funext fun i => ?_)
   rw [hQ]
   dsimp only
   cases A[i0].2[i]? with
   | none => rfl
   | some s => exact (hG s).1
  have hQo : ∀ i, ∀ x ∈ Q i, Enc.Ok x.1 x.2 := fun i x hx => by
   rw [hQ] at hx
   dsimp only at hx
   cases hi : A[i0].2[i]? with
   | none => rw [hi] at hx; cases hx
   | some s => rw [hi] at hx; exact (hG s).2.1 x hx
  have hTot : (n.flatMap Q).length ≤ 13 ^ 10 := by
   have h1 := congrArg List.length (hQm n)
   rw [List.length_map] at h1
   rw [List.length_cons] at hTl
   have h2 : 13 ^ (f' + 1 + 1) ≤ 13 ^ 10 := Nat.pow_le_pow_right (by omega) (by omega)
   omega
  have h13 : (13 : Nat) ^ 10 ≤ 1000000000000 := by decide
  obtain ⟨L0, hL0⟩ : ∃ L0, L0 = 1 :: (i0 : Int) :: castL n := ⟨_, rfl⟩
  refine ⟨false, (some false, L0) :: n.flatMap Q, ?_, ?_, ?_⟩
  ·rw [List.map_cons, hQm, hL0]; rfl
  ·intro x hx
   rcases List.mem_cons.1 hx with rfl | hx
   ·exact Enc.ok_some
   ·obtain ⟨i, _, hi⟩ := List.mem_flatMap.1 hx
    exact hQo i x hi
  have li2 : ∀ H, buildSliceT (some elInt) false H 2 #[(0, .int .i64 1), (1, .int .i64 (i0 : Int))] = some (lst true (intE.vals [1, (i0 : Int)]), H) := fun H => lit2 H 1 (i0 : Int)
  have apL : appendT (some elInt) [] 0 false (lst true (intE.vals [1, (i0 : Int)])) (intE.o (some false) (castL n)) = some (Enc.sl 0 L0, [intE.row 3 L0]) := by
   rw [hL0]
   exact Enc.app_tree (O := intE) (el := elInt) (l := [1, (i0 : Int)]) (m := castL n) rfl (Enc.cells_tree (O := intE) (x := false)) hncl (by rw [cast_len]; show (2 + n.length) * 8 ≤ _; omega)
  have blL : buildSliceT (some elRow) false [intE.row 3 L0] 1 #[(0, Enc.sl 0 L0)] = some (.slice (some ⟨1, 0, none⟩) 1 1, pr0 L0) := by
   rw [build_one' (by rfl) rfl rfl, if_neg (by decide), if_neg (by
    show ¬ false = true
    decide)]
   rfl
  have rr := reify_rowsR (h := pr1 L0 (n.flatMap Q)) (b := 3) (g := 1) (cap := (n.flatMap Q).length + 1) (sp := some ((n.flatMap Q).length + 1)) (L0 := L0) (R := n.flatMap Q) rfl (by unfold stampOk; simp) rfl
  have wf2 : IntKind.i64.wrap (((f' + 1 : Nat) : Int) - 1) = (f' : Int) := (wrap64 (by omega) (by omega)).trans (by omega)
  have hrg : ¬ (((f' + 1 : Nat) : Int) < 1) := by omega
  have hol : ¬ (op.length : Int) = 0 := by have := List.length_pos_iff.2 ho0; omega
  have fA : ∀ h, freezeV E.P depth 0 h (listE.o K A) = some (listE.o K A, h) := fun h => Enc.o_frz
  have bA : ∀ d n, below (d + 1) n (listE.o K A) = true := fun d n => Enc.o_bel
  have bC : ∀ d n, below (d + 1) n (strE.o Kc c) = true := fun d n => Enc.o_bel
  have bO : ∀ d n, below (d + 1) n (intE.o (some false) (castL op)) = true := fun d n => Enc.o_bel
  have bP : ∀ d n, below (d + 1) n (intE.o kp (castL [])) = true := fun d n => Enc.o_bel
  have bN : ∀ d m, below (d + 1) m (intE.o (some false) (castL n)) = true := fun d m => Enc.o_bel
  have bE : ∀ d n, below (d + 1) n (cptr (listE.e A[i0])) = true := fun _ _ => rfl
  have bL : below 8 4 (Enc.sl 0 L0) = true := rfl
  have bS : ∀ d n, below (d + 1) n (strE.o A[i0].1 A[i0].2) = true := fun d n => Enc.o_bel
  have pu := fun (s : ByteArray) H => push1 (O := strE) (el := elStr) (lo := 0) (H := H) (k := Kc) (a := c) (s := s) rfl hKc (by show (c.length + 1) * 16 ≤ _; omega) (Nat.zero_le _)
  have fz : ∀ (s : ByteArray) (H : Heap), freezeV E.P depth 0 (H ++ [strE.row 9 (c ++ [s])]) (Enc.sl H.length (c ++ [s])) = some (strE.o (some false) (c ++ [s]), H ++ [AObj.dead]) := fun s H => by
   have := Enc.frz_sl (O := strE) (P := E.P) (h := H ++ [strE.row 9 (c ++ [s])]) (b := H.length) (lo := 0) (t := 9) (l := c ++ [s]) (by rw [List.getElem?_append_right (Nat.le_refl _), Nat.sub_self]; rfl) sStr aStr (Nat.zero_le _)
   rw [if_neg (by rw [List.length_append]; simp), List.set_append_right _ _ (Nat.le_refl _), Nat.sub_self] at this
   exact this
  have f3 := fun (s : ByteArray) (H : Heap) => frzAll3 (v3 := .int .i64 (f' : Int)) fA (fz s H) (fun h => frz_int (n := 7))
  have pcs := fun (s : ByteArray) => (hG s).2.2
  have gne : ∀ s, (G s).2 ≠ [] := fun s e => by
   have := (hG s).1
   rw [e] at this
   exact proveR_ne (f' + 1) (c ++ [s]) this.symm
  obtain ⟨T, hT⟩ : ∃ T, T = n.flatMap Q := ⟨_, rfl⟩
  rw [← hT] at rr hTot ⊢
  have l0_ : ∀ H, buildSliceT (some elStr) false H 0 #[] = some (lst true [], H) := fun _ => rfl
  have l1_ : ∀ H s, buildSliceT (some elStr) false H 1 #[(0, .string s)] = some (lst true (strE.vals [s]), H) := fun H s => Enc.lit (O := strE) s rfl rfl rfl
  generalize hVA : listE.o K A = VA at *
  generalize hVC : strE.o Kc c = VC at *
  generalize hVO : intE.o (some false) (castL op) = VO at *
  generalize hVP : intE.o kp (castL []) = VP at *
  generalize hVN : intE.o (some false) (castL n) = VN at *
  generalize hVS : strE.o A[i0].1 A[i0].2 = VS at *
  generalize cptr (listE.e A[i0]) = VE at *
  generalize rowE.o (some false) ((some false, L0) :: T) = VT at *
  simp -implicitDefEqProofs [r30, p30, oc_, wf, pk, lPr, lOp, hrg, ho0, hol, iO, iA, lA, cc, li2, apL, blL, ln, -Int.natCast_add]
  rw [LL_for (γ := RowL) n [] (fun i R => [(11, if i = 0 then .slice (some ⟨1, 0, none⟩) 1 1 else prV R), (12, .int .i64 (i : Int))]) (fun i R => if i = 0 then pr0 L0 else pr1 L0 R) (fun i rest R => (.exit 0, [(11, prV (R ++ rest.flatMap Q)), (12, undef)], pr1 L0 (R ++ rest.flatMap Q))) (fun i R => R ++ (n.drop i).flatMap Q = T ∧ (i = 0 → R = [])) (by omega) ⟨by rw [hT]; rfl, fun _ => rfl⟩]
  ·rw [List.nil_append, ← hT]
   have rr : reifyR E.P (pr1 L0 T) (prV T) = some VT := rr
   generalize prV T = PV at *
   simp -implicitDefEqProofs [k30_9, rr]
  ·simp -implicitDefEqProofs [k30_9]
  ·rfl
  ·intro nx i R hi hI
   have hi0 : i ≠ 0 := by
    intro e
    rw [hi] at e
    exact hcn (List.eq_nil_of_length_eq_zero e)
   rw [if_neg hi0, if_neg hi0, List.flatMap_nil, List.append_nil]
   simp -implicitDefEqProofs [r30_9, k30_9, ln, hi, trim_le]
  ·intro nx i v rest R hi hv hd hw hI ih
   obtain ⟨hI1, hI2⟩ := hI
   have hi2 : ((i : Int) < (n.length : Int)) := by omega
   have hvl : v < A[i0].2.length := hcl v (by rw [← hv]; exact List.getElem_mem hi)
   have x1 := an i hi
   rw [hv] at x1
   have x2 := as_ v hvl
   have hQv : Q v = (G A[i0].2[v]).2 := by rw [hQ]; dsimp only; rw [List.getElem?_eq_getElem hvl]; rfl
   have hd2 : n.drop (i + 1) = rest := by
    rw [List.drop_eq_getElem_cons hi] at hd
    exact (List.cons.inj hd).2
   have gne := gne A[i0].2[v]
   have pc := pcs A[i0].2[v]
   have pu := pu A[i0].2[v]
   have f3 := f3 A[i0].2[v]
   have l1_ := fun H => l1_ H A[i0].2[v]
   have ih := ih (R ++ Q v) ⟨by rw [hd2, ← hI1, hd, List.flatMap_cons, List.append_assoc], fun h => by omega⟩
   rw [if_neg (Nat.succ_ne_zero i), if_neg (Nat.succ_ne_zero i), List.append_assoc] at ih
   have hlen : R.length + (Q v).length ≤ 1000000000000 := by
    have := congrArg List.length hI1
    rw [hd, List.flatMap_cons, List.length_append, List.length_append] at this
    omega
   have e2 : (((i + 1 : Nat) : Int)) = (i : Int) + 1 := by omega
   rw [e2] at ih
   rw [List.flatMap_cons]
   rw [← hQv] at gne pc
   generalize hk : (G A[i0].2[v]).1 = kx at *
   generalize A[i0].2[v] = s at *
   generalize R ++ (Q v ++ rest.flatMap Q) = Z at *
   have ap0 := app_pr0 (L0 := L0) (x := kx) gne (by omega)
   have ap1 := app_pr1 (L0 := L0) (x := kx) (R := R) gne hlen
   generalize rowE.o (some kx) (Q v) = VQ at *
   generalize strE.o (some false) (c ++ [s]) = VCS at *
   have p0 : (pr0 L0).length = 2 := rfl
   have p1 : ∀ R, (pr1 L0 R).length = 4 := fun _ => rfl
   have b2 : ∀ R, below 8 2 (prV R) = false := fun _ => rfl
   have b4 : ∀ R, below 8 4 (prV R) = true := fun _ => rfl
   by_cases h0 : i = 0
   ·have hR := hI2 h0
    subst hR
    subst h0
    rw [if_pos rfl, if_pos rfl]
    have x1 : indexAddrT (.sl 3 ⟨some false, some 1⟩) VN (.int .i64 0) = some (cptr (.int .i64 (v : Int))) := x1
    have hw1 : IntKind.i64.wrap 1 = 1 := wrap64 (by omega) (by omega)
    have ih : nx (sets [(11, prV ([] ++ Q v)), (12, .int .i64 1)] _) _ = _ := ih
    obtain ⟨V1, H1, a1, a2⟩ := pu (pr0 L0)
    have f3 := f3 (pr0 L0)
    rw [p0] at a2 f3
    generalize hVS2 : Enc.sl 2 (c ++ [s]) = V2 at *
    have pe : elStr.e = 9 := rfl
    generalize hRW : strE.row 9 (c ++ [s]) = RW at *
    generalize hH1 : pr0 L0 ++ [RW] = HA at *
    generalize hH2 : pr0 L0 ++ [AObj.dead] = HB at *
    rw [List.nil_append] at ih
    have tn : ∀ vs, vs.all (below 8 2) = false → trim 2 vs (pr1 L0 (Q v)) = pr1 L0 (Q v) := fun vs h => trim_no h
    generalize hPV : prV (Q v) = PV at *
    have bV : below 8 2 PV = false := by rw [← hPV]; rfl
    simp -implicitDefEqProofs [k30_9, -Int.natCast_add] at ih
    simp -implicitDefEqProofs [r30_9, k30_9, ln, hi, x1, x2, l0_, l1_, a1, a2, wf2, ret4 m30, f3, pc, ap0, p0, hw1, tn, bV, ih, -List.all_eq_true, -List.all_map, -Int.natCast_add, -List.all_eq_false]
   ·rw [if_neg h0, if_neg h0]
    obtain ⟨V1, H1, a1, a2⟩ := pu (pr1 L0 R)
    have f3 := f3 (pr1 L0 R)
    rw [p1] at a2 f3
    generalize hVS2 : Enc.sl 4 (c ++ [s]) = V2 at *
    generalize hRW : strE.row 9 (c ++ [s]) = RW at *
    generalize hH1 : pr1 L0 R ++ [RW] = HA at *
    generalize hH2 : pr1 L0 R ++ [AObj.dead] = HB at *
    have tp : ∀ vs, vs.all (below 8 4) = true → trim 4 vs (pr1 L0 (R ++ Q v) ++ [AObj.dead]) = pr1 L0 (R ++ Q v) := fun vs h => trim_pr1 h
    generalize hPV : prV (R ++ Q v) = PV at *
    have bV : below 8 4 PV = true := by rw [← hPV]; rfl
    generalize pr1 L0 (R ++ Q v) ++ [AObj.dead] = HC at *
    simp -implicitDefEqProofs [k30_9, -Int.natCast_add] at ih
    simp -implicitDefEqProofs [r30_9, k30_9, ln, hi2, x1, x2, l0_, l1_, a1, a2, wf2, ret4 m30, f3, pc, ap1, p1, hw, tp, bV, bA, bC, bO, bP, bN, bS, bE, bL, ih, -List.all_eq_true, -List.all_map, -Int.natCast_add, -List.all_eq_false]
theorem proveR_spec {K : Option Bool} {A : List (Option Bool × List ByteArray)} (a : AlOk K A) (he : errV A = 0) : ∀ (f : Nat) (c : List ByteArray), f ≤ 8 → c.length + f ≤ 1000 → PrvR K A f c := by
 intro f
 induction f with
 | zero => intro c h1 h2; exact proveR_step a he h1 (by omega) fun f' s e => by omega
 | succ f ih =>
  intro c h1 h2
  refine proveR_step a he h1 (by omega) fun f' s e => ?_
  have e : f = f' := by omega
  subst e
  exact ih (c ++ [s]) (by omega) (by rw [List.length_append, List.length_singleton]; omega)
theorem proveR_top {K : Option Bool} {A : List (Option Bool × List ByteArray)} (a : AlOk K A) : ∃ kr : Option Bool × RowL, (kr.1 = none → kr.2 = []) ∧ (∀ x ∈ kr.2, Enc.Ok x.1 x.2) ∧ kr.2.map (·.2) = (proofO A).2.map (·.2) ∧
  ∀ lo st h, retCall E (L E) lo st 14 [listE.o K A] h = some (.tuple #[rowE.o kr.1 kr.2, .int .i64 (errV A)], h) := by
 have lc := fun lo st h => leastR_call a (lo := lo) (st := st) (h := h)
 have rt : ∀ (v : Value), pureCall E.P (L E) 14 [listE.o K A] = some v → ∀ lo st h, retCall E (L E) lo st 14 [listE.o K A] h = some (v, h) := fun v hv lo st h => by
  rw [ret1s m14 (by
   rw [List.all_cons, List.all_nil, Bool.and_true]
   exact Enc.o_set), hv]; rfl
 by_cases he : errV A = 0
 case neg =>
  have hp : proofO A = (none, []) := by unfold proofO; rw [if_neg he]
  refine ⟨(none, []), fun _ => rfl, fun x hx => (by cases hx), by rw [hp], rt _ ?_⟩
  have hc : coreO A = (none, []) := by unfold coreO; rw [if_neg he]
  rw [hc] at lc
  have e : rowE.o ((none, []) : Option Bool × RowL).1 ((none, []) : Option Bool × RowL).2 = .slice none 0 0 := rfl
  rw [e, pureCall_fn F14 rfl]
  generalize listE.o K A = VA at *
  generalize strE.o ((none, []) : Option Bool × List ByteArray).1 ((none, []) : Option Bool × List ByteArray).2 = VC at *
  simp -implicitDefEqProofs [r14, p14, lc, he]
 have g := good_of he
 obtain ⟨c1, c2⟩ := core_pos he
 have hc : coreO A = (some false, Co.coreF Co.ltB (als A)) := by unfold coreO; rw [if_pos he]
 have hp : proofO A = (some false, prfL (Co.proveF (als A) (Co.coreF Co.ltB (als A)).length (Co.allF (als A)))) := by unfold proofO; rw [if_pos he]
 obtain ⟨k, R, h1, h2, h3⟩ := proveR_spec a he ((Co.coreF Co.ltB (als A)).length - 1) [] (by omega) (by show 0 + _ ≤ 1000; omega) none (fun _ => rfl)
 have e1 : (Co.coreF Co.ltB (als A)).length - 1 + 1 = (Co.coreF Co.ltB (als A)).length := by omega
 rw [e1, Co.proveR_core Co.ordB g] at h1
 refine ⟨(some k, R), fun h => (by cases h), h2, by rw [hp]; show R.map (·.2) = _; rw [h1, prfL_snd], rt _ ?_⟩
 rw [hc, he] at lc
 rw [he]
 have lC : ∀ H, lenT .sl H (strE.o (some false) (Co.coreF Co.ltB (als A))) = some (.int .i64 ((Co.coreF Co.ltB (als A)).length : Int)) := fun H => Enc.o_len Enc.ok_some
 have wl : IntKind.i64.wrap (((Co.coreF Co.ltB (als A)).length : Int) - 1) = (((Co.coreF Co.ltB (als A)).length - 1 : Nat) : Int) := (wrap64 (by omega) (by omega)).trans (by omega)
 have e0 : strE.o none [] = .slice none 0 0 := rfl
 rw [e0] at h3
 have f3 := fun lo h => frzAll3 (P := E.P) (lo := lo) (h := h) (v2 := .slice none 0 0) (u2 := .slice none 0 0) (h' := h) (v3 := .int .i64 (((Co.coreF Co.ltB (als A)).length - 1 : Nat) : Int)) (fun h => Enc.o_frz (O := listE) (k := K) (l := A)) rfl (fun h => frz_int (n := 7))
 have rr : ∀ H, reify E.P 8 H (rowE.o (some k) R) = some (rowE.o (some k) R) := fun H => Enc.o_reify
 rw [pureCall_fn F14 rfl]
 simp only at lc ⊢
 generalize strE.o (some false) (Co.coreF Co.ltB (als A)) = VC at *
 generalize (((Co.coreF Co.ltB (als A)).length - 1 : Nat) : Int) = f at *
 generalize listE.o K A = VA at *
 generalize rowE.o (some k) R = VR at *
 simp -implicitDefEqProofs [r14, p14, lc, lC, wl, ret4 m30, f3, h3, reifyAll_cons, reifyAll_nil, rr]
end Go.Proofs.YtgefjhjmkejjbaaDoor.Bm
