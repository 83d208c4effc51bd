/-
 Smallest reasons, plain: names put in their place; packings with what they are held in; a proof read. Conditions: none. No program in sight.
-/
import Derived.Test.YtgefjhjmkejjbaaDoorQB25
import Derived.Test.YtgefjhjmkejjbaaDoorQB19
namespace Go.Proofs.YtgefjhjmkejjbaaDoor.Bm
open Go Go.RowKit
open Co (hitB hitsF memB ltB ascB apartR maskF withinR)
theorem bits_call {K : Option Bool} {A : List (Option Bool × List ByteArray)} {s : ByteArray} (a : AlOk K A) (h8 : A.length ≤ 8) {lo : Nat} {st : Bool} {h : Heap} : retCall E (L E) lo st 28 [listE.o K A, .string s] h = some (.int .i64 (maskF (als A) s : Nat), h) := by
 have r1 : ∀ H, reify E.P 8 H (listE.o K A) = some (listE.o K A) := fun H => Enc.o_reify
 have := bits_spec (s := s) a h8
 simp -implicitDefEqProofs [ret0 m28, r1, this]
theorem index_call {K : Option Bool} {l : List Int} {s : Int} (hK : Enc.Ok K l) (hl : l.length ≤ 9223372036854775807) {lo : Nat} {st : Bool} {h : Heap} : retCall E (L E) lo st 57 [intE.o K l, .int .i64 s] h = some (.bool (memB s l), h) := by
 have r1 : ∀ H, reify E.P 8 H (intE.o K l) = some (intE.o K l) := fun H => Enc.o_reify
 have := index_spec (s := s) hK hl
 simp -implicitDefEqProofs [ret0 m57, r1, this]
theorem apart_callR {K Ko : Option Bool} {A : List (Option Bool × List ByteArray)} {o : List Nat} {i : Nat} (a : AlOk K A) (hKo : Enc.Ok Ko (castL o)) (hol : o.length ≤ 1000000) (hi : i < A.length) (ho : ∀ k ∈ o, k < A.length) {lo : Nat} {st : Bool} {h : Heap} :
  retCall E (L E) lo st 68 [listE.o K A, .int .i64 (i : Int), intE.o Ko (castL o)] h = some (.bool (apartR (als A) i o), h) := by
 have r1 : ∀ H, reify E.P 8 H (listE.o K A) = some (listE.o K A) := fun H => Enc.o_reify
 have r2 : ∀ H, reify E.P 8 H (intE.o Ko (castL o)) = some (intE.o Ko (castL o)) := fun H => Enc.o_reify
 have := apart_specR a hKo hol hi ho
 simp -implicitDefEqProofs [ret0 m68, r1, r2, this]
set_option maxHeartbeats 2000000 in
theorem within_spec {K Ko : Option Bool} {A : List (Option Bool × List ByteArray)} {o : List Nat} {x y : ByteArray} (a : AlOk K A) (hKo : Enc.Ok Ko (castL o)) (hol : o.length ≤ 1000000) (ho : ∀ k ∈ o, k < A.length) :
  pureCall E.P (L E) 69 [listE.o K A, intE.o Ko (castL o), .string x, .string y] = some (.bool (withinR (als A) o x y)) := by
 have lO : ∀ H, lenT .sl H (intE.o Ko (castL o)) = some (.int .i64 o.length) := fun H => by rw [Enc.o_len hKo]; unfold castL; rw [List.length_map]
 have iO : ∀ (m : Nat) (hm : m < o.length), indexAddrT (.sl 3 ⟨some false, some 1⟩) (intE.o Ko (castL o)) (.int .i64 (m : Int)) = some (cptr (.int .i64 (o[m] : Int))) := fun m hm => by
  rw [Enc.index_o (O := intE) hKo (show m < (castL o).length by unfold castL; rw [List.length_map]; exact hm)]
  unfold castL
  rw [List.getElem_map]; rfl
 have iA : ∀ (i : Nat) (hi : i < A.length), indexAddrT (.sl 23 ⟨some false, some 1⟩) (listE.o K A) (.int .i64 (i : Int)) = some (cptr (listE.e A[i])) := fun i hi => Enc.index_o a.k hi
 have leE : ∀ (v : Option Bool × List ByteArray) H sz, loadT ⟨some false, sz⟩ H (cptr (listE.e v)) = some (strE.o v.1 v.2) := fun v H sz => Enc.load_e (O := listE) _
 have ht := fun (s : ByteArray) (k : Nat) (hk : k < A.length) lo st h => has_call (s := s) (a.row _ (List.getElem_mem hk)) (by have := a.sm _ (List.getElem_mem hk); omega) (lo := lo) (st := st) (h := h)
 have eR : withinR (als A) o x y = o.all fun k => !memB x ((als A).getD k []) || memB y ((als A).getD k []) := rfl
 rw [pureCall_fn F69 rfl, eR]
 generalize listE.o K A = VA at *
 generalize intE.o Ko (castL o) = VO at *
 obtain ⟨R, hR⟩ : ∃ R : Bool, R = o.all fun k => !memB x ((als A).getD k []) || memB y ((als A).getD k []) := ⟨_, rfl⟩
 rw [← hR]
 simp -implicitDefEqProofs [r69, p69]
 rw [LL_for (γ := Unit) o () (fun m _ => [(9, .int .i64 m)]) (fun _ _ => []) (fun m rest _ => if (rest.all fun k => !memB x ((als A).getD k []) || memB y ((als A).getD k [])) = true then (.exit 0, [(9, undef)], []) else (.ret, [(8, .bool false), (9, undef)], [])) (fun _ _ => True) (by omega) trivial]
 ·rw [← hR]
  cases R
  ·simp -implicitDefEqProofs [k69_2]
  ·simp -implicitDefEqProofs [k69_2]
 ·simp -implicitDefEqProofs [k69_2]
 ·rfl
 ·intro nx m c hm _
  rw [List.all_nil]
  simp -implicitDefEqProofs [r69_2, k69_2, lO, hm, trim_le]
 ·intro nx m v rest c hm hv hd hw _ ih
  have ih := ih () trivial
  have hm2 : ((m : Int) < (o.length : Int)) := by omega
  have hvA : v < A.length := ho v (by rw [← hv]; exact List.getElem_mem hm)
  have x1 := iO m hm
  rw [hv] at x1
  have x2 := iA v hvA
  have l2 := leE A[v]
  have hx := ht x v hvA
  have hy := ht y v hvA
  have e2 : (((m + 1 : Nat) : Int)) = (m : Int) + 1 := by omega
  rw [e2] at ih
  rw [List.all_cons, als_get A hvA]
  generalize (rest.all fun k => !memB x ((als A).getD k []) || memB y ((als A).getD k [])) = ra at *
  generalize strE.o A[v].1 A[v].2 = VX at *
  generalize cptr (listE.e A[v]) = PX at *
  simp -implicitDefEqProofs [k69_2] at ih
  cases q : memB x A[v].2
  ·rw [q] at hx
   rw [Bool.not_false, Bool.true_or, Bool.true_and]
   simp -implicitDefEqProofs [r69_2, k69_2, lO, hm2, x1, x2, l2, hx, hw, ih, trim_le]
  ·rw [q] at hx
   rw [Bool.not_true, Bool.false_or]
   cases q2 : memB y A[v].2
   ·rw [q2] at hy
    rw [Bool.false_and]
    simp -implicitDefEqProofs [r69_2, k69_2, lO, hm2, x1, x2, l2, hx, hy, trim_le]
   ·rw [q2] at hy
    rw [Bool.true_and]
    simp -implicitDefEqProofs [r69_2, k69_2, lO, hm2, x1, x2, l2, hx, hy, hw, ih, trim_le]
theorem within_call {K Ko : Option Bool} {A : List (Option Bool × List ByteArray)} {o : List Nat} {x y : ByteArray} (a : AlOk K A) (hKo : Enc.Ok Ko (castL o)) (hol : o.length ≤ 1000000) (ho : ∀ k ∈ o, k < A.length) {lo : Nat} {st : Bool} {h : Heap} :
  retCall E (L E) lo st 69 [listE.o K A, intE.o Ko (castL o), .string x, .string y] h = some (.bool (withinR (als A) o x y), h) := by
 have r1 : ∀ H, reify E.P 8 H (listE.o K A) = some (listE.o K A) := fun H => Enc.o_reify
 have r2 : ∀ H, reify E.P 8 H (intE.o Ko (castL o)) = some (intE.o Ko (castL o)) := fun H => Enc.o_reify
 have := within_spec (x := x) (y := y) a hKo hol ho
 simp -implicitDefEqProofs [ret0 m69, r1, r2, this]
end Go.Proofs.YtgefjhjmkejjbaaDoor.Bm
namespace Go.Proofs.YtgefjhjmkejjbaaDoor.Bm
open Go Go.RowKit
open Co (hitB openR)
theorem sInt : szOf E.P 3 = some 1 := by kernel_rfl
theorem aInt : aggT E.P 3 = some false := by kernel_rfl
def opL (c : List ByteArray) : Nat → List (Option Bool × List ByteArray) → List Int
 | _, [] => []
 | i, v :: r => if hitB v.2 c = true then opL c (i + 1) r else (i : Int) :: opL c (i + 1) r
theorem opL_eq {A : List (Option Bool × List ByteArray)} {c : List ByteArray} : ∀ (r : List (Option Bool × List ByteArray)) (i : Nat), A.drop i = r → opL c i r = castL ((List.range' i r.length).filter fun k => !hitB ((als A).getD k []) c)
 | [], _, _ => rfl
 | v :: r, i, h => by
  have hi : i < A.length := by
   rcases Nat.lt_or_ge i A.length with q | q
   ·exact q
   ·rw [List.drop_eq_nil_of_le q] at h; cases h
  have h1 := List.drop_eq_getElem_cons hi
  rw [h] at h1
  obtain ⟨h2, h3⟩ := List.cons.inj h1
  rw [List.length_cons, List.range'_succ, List.filter_cons, als_get A hi, ← h2]
  unfold opL
  rw [opL_eq r (i + 1) h3.symm]
  cases hitB v.2 c <;> rfl
theorem opL_all (A : List (Option Bool × List ByteArray)) (c : List ByteArray) : opL c 0 A = castL (openR (als A) c) := by
 rw [opL_eq A 0 rfl]
 unfold Co.openR
 rw [show (als A).length = A.length from List.length_map _, List.range_eq_range']
set_option maxHeartbeats 2000000 in
theorem open_spec {K Kc : Option Bool} {A : List (Option Bool × List ByteArray)} {c : List ByteArray} (a : AlOk K A) (hKc : Enc.Ok Kc c) (hc : c.length ≤ 1000000) :
  pureCall E.P (L E) 47 [listE.o K A, strE.o Kc c] = some (intE.o (some false) (castL (openR (als A) c))) := by
 have hl := a.len
 have lA : ∀ H, lenT .sl H (listE.o K A) = some (.int .i64 A.length) := fun H => Enc.o_len a.k
 have iA : ∀ (i : Nat) (hi : i < A.length), indexAddrT (.sl 23 ⟨some false, some 1⟩) (listE.o K A) (.int .i64 (i : Int)) = some (cptr (listE.e A[i])) := fun i hi => Enc.index_o a.k hi
 have leE : ∀ (v : Option Bool × List ByteArray) H sz, loadT ⟨some false, sz⟩ H (cptr (listE.e v)) = some (strE.o v.1 v.2) := fun v H sz => Enc.load_e (O := listE) _
 have ht := fun (x : Option Bool × List ByteArray) (hx : x ∈ A) lo st h => hit_call (a.row x hx) (by have := a.sm x hx; omega) hKc (by omega) (lo := lo) (st := st) (h := h)
 have hnew := fun (h : Heap) (σ : Slots) (s : Nat) => newK_nil (P := E.P) (t := 3) (h := h) (σ := σ) (s := s) (n := 0) sInt
 rw [pureCall_fn F47 rfl, ← opL_all]
 have rR : ∀ x, reifyR E.P [intE.row 3 x] (Enc.sl 0 x) = some (intE.o (some false) x) := fun x => Enc.reifyR_sl (O := intE) (t := 3) rfl sInt aInt
 generalize listE.o K A = VA at *
 generalize strE.o Kc c = VC at *
 obtain ⟨R, hR⟩ : ∃ R, R = opL c 0 A := ⟨_, rfl⟩
 rw [← hR]
 simp -implicitDefEqProofs [r47, p47, prep_new, hnew]
 rw [LL_for (γ := List Int) A [] (fun i x => [(5, Enc.sl 0 x), (6, .int .i64 (i : Int))]) (fun _ x => [intE.row 3 x]) (fun i rest x => (.exit 0, [(5, Enc.sl 0 (x ++ opL c i rest)), (6, undef)], [intE.row 3 (x ++ opL c i rest)])) (fun i x => x.length ≤ i) (by omega) (Nat.le_refl _)]
 ·rw [List.nil_append, ← hR]
  have rR := rR R
  generalize Enc.sl 0 R = VS at *
  simp -implicitDefEqProofs [k47_3, rR]
 ·simp -implicitDefEqProofs [k47_3]; rfl
 ·rfl
 ·intro nx i x hi _
  have e0 : opL c i [] = [] := rfl
  rw [e0, List.append_nil]
  simp -implicitDefEqProofs [r47_3, k47_3, lA, hi, trim_le]
 ·intro nx i v rest x hi hv hd hw hI ih
  have hI : x.length ≤ i := hI
  have hi2 : ((i : Int) < (A.length : Int)) := by omega
  have x1 := iA i hi
  rw [hv] at x1
  have le1 := leE v
  have ht := ht v (by rw [← hv]; exact List.getElem_mem hi)
  have e2 : (((i + 1 : Nat) : Int)) = (i : Int) + 1 := by omega
  rw [e2] at ih
  have li1 : ∀ H, buildSliceT (some elInt) false H 1 #[(0, .int .i64 (i : Int))] = some (lst true (intE.vals [(i : Int)]), H) := fun H => Enc.lit (O := intE) (i : Int) rfl rfl rfl
  have ap : appendT (some elInt) [intE.row 3 x] 0 false (Enc.sl 0 x) (lst true (intE.vals [(i : Int)])) = some (Enc.sl 0 (x ++ [(i : Int)]), [intE.row 3 (x ++ [(i : Int)])]) :=
   Enc.app (O := intE) (el := elInt) (lo := 0) (m := [(i : Int)]) (h := [intE.row 3 x]) (b := 0) (t := 3) (l := x) rfl rfl (Enc.cells_tree (O := intE) (x := true)) (Nat.zero_le _) (by show (x.length + 1) * 8 ≤ _; omega)
  have eo : opL c i (v :: rest) = if hitB v.2 c = true then opL c (i + 1) rest else (i : Int) :: opL c (i + 1) rest := rfl
  rw [eo]
  generalize strE.o v.1 v.2 = VX at *
  generalize cptr (listE.e v) = PX at *
  cases q : hitB v.2 c
  ·rw [q] at ht
   rw [if_neg (by decide)]
   have ih := ih (x ++ [(i : Int)]) (by show (x ++ [(i : Int)]).length ≤ i + 1; rw [List.length_append]; simp; omega)
   rw [List.append_assoc, List.singleton_append] at ih
   generalize x ++ (i : Int) :: opL c (i + 1) rest = Z at *
   simp -implicitDefEqProofs [k47_3] at ih
   simp -implicitDefEqProofs [r47_3, k47_3, lA, hi2, x1, le1, ht, li1, ap, hw, trim_le, ih]
  ·rw [q] at ht
   rw [if_pos rfl]
   have ih := ih x (by show x.length ≤ i + 1; omega)
   generalize x ++ opL c (i + 1) rest = Z at *
   simp -implicitDefEqProofs [k47_3] at ih
   simp -implicitDefEqProofs [r47_3, k47_3, lA, hi2, x1, le1, ht, hw, trim_le, ih]
end Go.Proofs.YtgefjhjmkejjbaaDoor.Bm
namespace Go.Proofs.YtgefjhjmkejjbaaDoor.Bm
open Go Go.RowKit
open Co (withinR coversR)
def covB (L : List (List ByteArray)) (o : List Nat) (aa : List ByteArray) (n : List Nat) (x : ByteArray) : Bool := n.any fun k => match aa[k]? with | some y => withinR L o x y | none => false
set_option maxHeartbeats 4000000 in
theorem covers_spec {K Ko Ka Kn : Option Bool} {A : List (Option Bool × List ByteArray)} {o n : List Nat} {aa : List ByteArray} (a : AlOk K A) (hKo : Enc.Ok Ko (castL o)) (hol : o.length ≤ 1000000) (ho : ∀ k ∈ o, k < A.length)
  (hKa : Enc.Ok Ka aa) (hal : aa.length ≤ 1000000) (hKn : Enc.Ok Kn (castL n)) (hnl : n.length ≤ 1000000) (hn : ∀ k ∈ n, k < aa.length) :
  pureCall E.P (L E) 58 [listE.o K A, intE.o Ko (castL o), strE.o Ka aa, intE.o Kn (castL n)] = some (.bool (coversR (als A) o aa n)) := by
 have lA : ∀ H, lenT .sl H (strE.o Ka aa) = some (.int .i64 aa.length) := fun H => Enc.o_len hKa
 have iA : ∀ (i : Nat) (hi : i < aa.length), indexAddrT (.sl 9 ⟨some false, some 1⟩) (strE.o Ka aa) (.int .i64 (i : Int)) = some (cptr (.string aa[i])) := fun i hi => Enc.index_o hKa hi
 have lN : ∀ H, lenT .sl H (intE.o Kn (castL n)) = some (.int .i64 n.length) := fun H => by rw [Enc.o_len hKn]; unfold castL; rw [List.length_map]
 have iN : ∀ (m : Nat) (hm : m < n.length), indexAddrT (.sl 3 ⟨some false, some 1⟩) (intE.o Kn (castL n)) (.int .i64 (m : Int)) = some (cptr (.int .i64 (n[m] : Int))) := fun m hm => by
  rw [Enc.index_o (O := intE) hKn (show m < (castL n).length by unfold castL; rw [List.length_map]; exact hm)]
  unfold castL
  rw [List.getElem_map]; rfl
 have wc := fun x y lo st h => within_call (x := x) (y := y) a hKo hol ho (lo := lo) (st := st) (h := h)
 have eR : coversR (als A) o aa n = aa.all (covB (als A) o aa n) := by
  unfold Co.coversR
  refine congrArg (fun p => aa.all p) (funext fun x => ?_)
  unfold covB
  refine congrArg (fun p => n.any p) (funext fun k => ?_)
  cases aa[k]? <;> rfl
 rw [pureCall_fn F58 rfl, eR]
 generalize listE.o K A = VA at *
 generalize intE.o Ko (castL o) = VO at *
 generalize strE.o Ka aa = VX at *
 generalize intE.o Kn (castL n) = VN at *
 generalize als A = AL at *
 obtain ⟨R, hR⟩ : ∃ R : Bool, R = aa.all (covB AL o aa n) := ⟨_, rfl⟩
 rw [← hR]
 simp -implicitDefEqProofs [r58, p58]
 rw [LL_for (γ := Unit) aa () (fun i _ => [(9, .int .i64 i)]) (fun _ _ => []) (fun i rest _ => if rest.all (covB AL o aa n) = true then (.exit 0, [(9, undef)], []) else (.ret, [(8, .bool false), (9, undef)], [])) (fun _ _ => True) (by omega) trivial]
 ·rw [← hR]
  cases R
  ·simp -implicitDefEqProofs [k58_2]
  ·simp -implicitDefEqProofs [k58_2]
 ·simp -implicitDefEqProofs [k58_2]
 ·rfl
 ·intro nx i c hi _
  rw [List.all_nil]
  simp -implicitDefEqProofs [r58_2, k58_2, lA, hi, trim_le]
 ·intro nx i v rest c hi hv hd hw _ ih
  have ih := ih () trivial
  have hi2 : ((i : Int) < (aa.length : Int)) := by omega
  have x1 := iA i hi
  rw [hv] at x1
  have e2 : (((i + 1 : Nat) : Int)) = (i : Int) + 1 := by omega
  rw [e2] at ih
  rw [List.all_cons]
  generalize rest.all (covB AL o aa n) = ra at *
  simp -implicitDefEqProofs [k58_2] at ih
  obtain ⟨Q, hQ⟩ : ∃ Q : Bool, Q = covB AL o aa n v := ⟨_, rfl⟩
  rw [← hQ]
  simp -implicitDefEqProofs [r58_2, k58_2, lA, hi2, trim_le]
  rw [LL_for (γ := Bool) n false (fun j x => [(10, .bool x), (11, .int .i64 (j : Int))]) (fun _ _ => []) (fun j rest2 x => (.exit 2, [(10, .bool (x || covB AL o aa rest2 v)), (11, undef)], [])) (fun _ _ => True) (by omega) trivial]
  ·rw [Bool.false_or, ← hQ]
   cases Q
   ·simp -implicitDefEqProofs [k58_6, trim_le]
   ·simp -implicitDefEqProofs [k58_6, trim_le, hw, ih]
  ·simp -implicitDefEqProofs [k58_6]
  ·rfl
  ·intro nx2 j x hj _
   have e0 : covB AL o aa [] v = false := rfl
   rw [e0, Bool.or_false]
   simp -implicitDefEqProofs [r58_6, k58_6, lN, hj, trim_le]
  ·intro nx2 j u rest2 x hj hu hd2 hw2 _ ih2
   have hj2 : ((j : Int) < n.length) := by omega
   have z1 := iN j hj
   rw [hu] at z1
   have hua : u < aa.length := hn u (by rw [← hu]; exact List.getElem_mem hj)
   have z2 := iA u hua
   have wc := wc v aa[u]
   have e3 : (((j + 1 : Nat) : Int)) = (j : Int) + 1 := by omega
   rw [e3] at ih2
   have ec : covB AL o aa (u :: rest2) v = (withinR AL o v aa[u] || covB AL o aa rest2 v) := by
    unfold covB
    rw [List.any_cons, List.getElem?_eq_getElem hua]
   rw [ec, ← Bool.or_assoc]
   have ih2 := ih2 (x || withinR AL o v aa[u]) trivial
   generalize covB AL o aa rest2 v = rc at *
   generalize withinR AL o v aa[u] = wv at *
   simp -implicitDefEqProofs [k58_6] at ih2
   cases x
   ·rw [Bool.false_or] at ih2 ⊢
    simp -implicitDefEqProofs [r58_6, k58_6, lN, hj2, x1, z1, z2, wc, trim_le, hw2, ih2]
   ·rw [Bool.true_or] at ih2 ⊢
    simp -implicitDefEqProofs [r58_6, k58_6, lN, hj2, trim_le, hw2, ih2]
end Go.Proofs.YtgefjhjmkejjbaaDoor.Bm
namespace Go.Proofs.YtgefjhjmkejjbaaDoor.Bm
open Go Go.RowKit
open Co (ltB ascB rem maskF allF proveF coreF namesF errF followF hitsF lessL)
theorem good_of {A : List (Option Bool × List ByteArray)} (he : errV A = 0) : Co.Good ltB (als A) := (Co.err_good (by decide) (by decide)).1 he
theorem check_no {A : List (Option Bool × List ByteArray)} (he : errV A = 0) {c : List ByteArray} {P : List (List Int)} (h : (ascB ltB c && hitsF (als A) c) = false) : checkV A c P = 19 := by
 unfold checkV
 rw [if_neg (by rw [he]; decide), h]; rfl
theorem few_fl {R : RowL} (hR : ∀ x ∈ R, Enc.Ok x.1 x.2) {k : Option Bool} (hk : Enc.Ok k R) (h1 : fewB R = true) (h2 : R.length ≤ 200) : FlP k R := ⟨hk, fun x hx => ⟨hR x hx, by
 have := of_decide_eq_true (List.all_eq_true.1 h1 x hx)
 omega⟩, by omega⟩
theorem small_call {lo : Nat} {st : Bool} {h : Heap} : retCall E (L E) lo st 8 [] h = some (.bool true, h) := by
 have := small_spec
 simp -implicitDefEqProofs [ret0 m8, this]
theorem fewA_call {K : Option Bool} {A : List (Option Bool × List ByteArray)} (hk : Enc.Ok K A) (hrow : ∀ x ∈ A, Enc.Ok x.1 x.2) (hl : A.length ≤ 9223372036854775807) {lo : Nat} {st : Bool} {h : Heap} : retCall E (L E) lo st 9 [listE.o K A] h = some (.bool (fewA A && decide (A.length ≤ 10)), h) := by
 have r1 : ∀ H, reify E.P 8 H (listE.o K A) = some (listE.o K A) := fun H => Enc.o_reify
 have := fewA_spec hk hrow hl
 simp -implicitDefEqProofs [ret0 m9, r1, this]
theorem few_call {k : Option Bool} {R : RowL} (hk : Enc.Ok k R) (hrow : ∀ x ∈ R, Enc.Ok x.1 x.2) (hl : R.length ≤ 9223372036854775807) {lo : Nat} {st : Bool} {h : Heap} : retCall E (L E) lo st 10 [rowE.o k R] h = some (.bool (fewB R && decide (R.length ≤ 200)), h) := by
 have r1 : ∀ H, reify E.P 8 H (rowE.o k R) = some (rowE.o k R) := fun H => Enc.o_reify
 have := few_spec hk hrow hl
 simp -implicitDefEqProofs [ret0 m10, r1, this]
theorem prove_rows {ls : List (List ByteArray)} (h12 : ∀ a ∈ ls, a.length ≤ 12) : ∀ (f o : Nat), f ≤ 100 → ∀ L ∈ proveF ls f o, L.length ≤ 1000
 | 0, _, _, L, h => by cases h
 | f + 1, o, hf, L, h => by
  unfold proveF at h
  cases hp : Co.packF ls o (f + 1) (List.range ls.length) [] with
  | some K =>
   rw [hp] at h
   have h : L = 0 :: K.map Int.ofNat := List.mem_singleton.1 h
   have := Co.pack_len hp
   rw [h, List.length_cons, List.length_map]
   omega
  | none =>
   rw [hp] at h
   have hn : (Co.choicesF ls o (ls.getD (Co.firstF o ls.length 0) [])).length ≤ 12 := by
    have h1 : (Co.choicesF ls o (ls.getD (Co.firstF o ls.length 0) [])).length ≤ (List.range (ls.getD (Co.firstF o ls.length 0) []).length).length := List.length_filter_le _ _
    rw [List.length_range] at h1
    have h2 : (ls.getD (Co.firstF o ls.length 0) []).length ≤ 12 := by
     rw [List.getD_eq_getElem?_getD]
     cases hg : ls[Co.firstF o ls.length 0]? with
     | none => simp
     | some a => exact h12 a (List.mem_of_getElem? hg)
    omega
   rcases List.mem_cons.1 h with h | h
   ·rw [h, List.length_cons, List.length_cons, List.length_map]; omega
   ·obtain ⟨i, _, hi⟩ := List.mem_flatMap.1 h
    exact prove_rows h12 f _ (by omega) L hi
theorem proof_fl {A : List (Option Bool × List ByteArray)} : FlP (proofO A).1 (proofO A).2 := by
 unfold proofO
 split
 ·rename_i he
  have g := good_of he
  obtain ⟨c1, c2⟩ := core_pos he
  refine ⟨Enc.ok_some, fun x hx => ?_, ?_⟩
  ·obtain ⟨L, hL, rfl⟩ := List.mem_map.1 hx
   exact ⟨Enc.ok_some, prove_rows g.small _ _ (by omega) L hL⟩
  ·unfold prfL
   rw [List.length_map]
   have h1 := prove_len (als A) g.small (coreF ltB (als A)).length (allF (als A))
   have h2 : 13 ^ (coreF ltB (als A)).length ≤ 13 ^ 8 := Nat.pow_le_pow_right (by omega) c2
   have h3 : (13 : Nat) ^ 8 ≤ 1000000000000 := by decide
   omega
 ·exact ⟨fun _ => rfl, fun x hx => (by cases hx), Nat.zero_le _⟩
theorem core_ok {A : List (Option Bool × List ByteArray)} : Enc.Ok (coreO A).1 (coreO A).2 ∧ (coreO A).2.length ≤ 8 := by
 unfold coreO
 split
 ·rename_i he
  exact ⟨Enc.ok_some, (core_pos he).2⟩
 ·exact ⟨fun _ => rfl, Nat.zero_le _⟩
end Go.Proofs.YtgefjhjmkejjbaaDoor.Bm
namespace Go.Proofs.YtgefjhjmkejjbaaDoor.Bm
open Go Go.RowKit
open Co (ltB ascB insF namesF)
def cntF (s : ByteArray) : List ByteArray → Nat
 | [] => 0
 | a :: l => if ltB a s = true then cntF s l + 1 else 0
theorem ins_old (s : ByteArray) : ∀ l : List ByteArray, l[cntF s l]? = some s → insF ltB s l = l
 | [], h => by simp [cntF] at h
 | a :: l, h => by
  unfold cntF at h
  unfold insF
  by_cases q : ltB a s = true
  ·rw [if_pos q] at h ⊢
   rw [ins_old s l (by simpa using h)]
  ·rw [if_neg q] at h ⊢
   have : a = s := by simpa using h
   rw [if_pos this]
def OutV (H : Heap) (V : Value) (l : List ByteArray) : Prop := (∃ k, Enc.Ok k l ∧ V = strE.o k l) ∨ ∃ b, V = Enc.sl b l ∧ H[b]? = some (strE.row 9 l)
theorem OutV.trim {H : Heap} {V : Value} {l : List ByteArray} (o : OutV H V l) {n : Nat} {vs : List Value} (hv : V ∈ vs) : OutV (Bm.trim n vs H) V l := by
 rcases o with o | ⟨b, rfl, hb⟩
 ·exact .inl o
 ·refine .inr ⟨b, rfl, ?_⟩
  unfold Bm.trim
  split
  ·exact hb
  ·split
   ·rename_i q
    rw [Bool.and_eq_true] at q
    have h1 : decide (b < n) = true := List.all_eq_true.1 q.1 _ hv
    rw [List.getElem?_take_of_lt (of_decide_eq_true h1)]; exact hb
   ·exact hb
theorem sStr : szOf E.P 9 = some 1 := by kernel_rfl
theorem aStr : aggT E.P 9 = some false := by kernel_rfl
theorem OutV.reify {H : Heap} {V : Value} {l : List ByteArray} (o : OutV H V l) : ∃ k, reifyR E.P H V = some (strE.o k l) ∧ Enc.Ok k l := by
 rcases o with ⟨k, hk, rfl⟩ | ⟨b, rfl, hb⟩
 ·exact ⟨k, Enc.o_reifyR, hk⟩
 ·exact ⟨some false, Enc.reifyR_sl (O := strE) hb sStr aStr, Enc.ok_some⟩
end Go.Proofs.YtgefjhjmkejjbaaDoor.Bm
namespace Go.Proofs.YtgefjhjmkejjbaaDoor.Bm
open Go Go.RowKit
open Co (apartR disjR memB)
theorem o_takeI {k : Option Bool} {l : List Int} (hk : Enc.Ok k l) {n : Nat} (hn : n ≤ l.length) : ∃ k', (∀ H : Heap, sliceT (.sl 3 ⟨some false, some 1⟩) H (intE.o k l) none (some (.int .i64 (n : Int))) none = some (intE.o k' (l.take n))) ∧ Enc.Ok k' (l.take n) := by
 cases k with
 | none =>
  have := hk rfl
  subst this
  have hn0 : n = 0 := by simpa using hn
  subst hn0
  exact ⟨none, fun _ => rfl, fun _ => rfl⟩
 | some x => exact ⟨some (x && n == l.length), fun _ => Enc.take_tree (O := intE) hn, Enc.ok_some⟩
theorem mem_cast (k : Nat) (o : List Nat) : memB (k : Int) (castL o) = decide (k ∈ o) := by
 unfold Co.memB castL
 rw [Bool.eq_iff_iff, decide_eq_true_eq, decide_eq_true_eq, List.mem_map]
 constructor
 ·rintro ⟨x, hx, e⟩
  have : x = k := Int.ofNat.inj e
  rw [← this]; exact hx
 ·intro h
  exact ⟨k, h, rfl⟩
set_option maxHeartbeats 2000000 in
theorem disjoint_spec {K Ko Kp : Option Bool} {A : List (Option Bool × List ByteArray)} {o p : List Nat} (a : AlOk K A) (hKo : Enc.Ok Ko (castL o)) (hol : o.length ≤ 1000000) (hKp : Enc.Ok Kp (castL p)) (hpl : p.length ≤ 1000000) (hp : ∀ k ∈ p, k < A.length) :
  pureCall E.P (L E) 56 [listE.o K A, intE.o Ko (castL o), intE.o Kp (castL p)] = some (.bool (disjR (als A) o [] p)) := by
 have lP : ∀ H, lenT .sl H (intE.o Kp (castL p)) = some (.int .i64 p.length) := fun H => by rw [Enc.o_len hKp]; unfold castL; rw [List.length_map]
 have iP : ∀ (m : Nat) (hm : m < p.length), indexAddrT (.sl 3 ⟨some false, some 1⟩) (intE.o Kp (castL p)) (.int .i64 (m : Int)) = some (cptr (.int .i64 (p[m] : Int))) := fun m hm => by
  rw [Enc.index_o (O := intE) hKp (show m < (castL p).length by unfold castL; rw [List.length_map]; exact hm)]
  unfold castL
  rw [List.getElem_map]; rfl
 have ic := fun (k : Nat) lo st h => index_call (s := (k : Int)) hKo (by unfold castL; rw [List.length_map]; omega) (lo := lo) (st := st) (h := h)
 have tk : ∀ m : Nat, m ≤ p.length → ∃ k', (∀ H : Heap, sliceT (.sl 3 ⟨some false, some 1⟩) H (intE.o Kp (castL p)) none (some (.int .i64 (m : Int))) none = some (intE.o k' (castL (p.take m)))) ∧ Enc.Ok k' (castL (p.take m)) := fun m hm => by
  obtain ⟨k', h1, h2⟩ := o_takeI hKp (n := m) (by unfold castL; rw [List.length_map]; exact hm)
  have e : (castL p).take m = castL (p.take m) := by unfold castL; rw [List.map_take]
  rw [e] at h2
  exact ⟨k', fun H => by rw [h1, e], h2⟩
 have ac := fun (i : Nat) (hi : i < A.length) (m : Nat) (k' : Option Bool) (hk' : Enc.Ok k' (castL (p.take m))) lo st h => apart_callR a (i := i) hk' (by rw [List.length_take]; omega) hi (fun k hk => hp k (List.mem_of_mem_take hk)) (lo := lo) (st := st) (h := h)
 rw [pureCall_fn F56 rfl]
 generalize listE.o K A = VA at *
 generalize intE.o Ko (castL o) = VO at *
 generalize intE.o Kp (castL p) = VP at *
 obtain ⟨R, hR⟩ : ∃ R : Bool, R = disjR (als A) o [] p := ⟨_, rfl⟩
 rw [← hR]
 simp -implicitDefEqProofs [r56, p56]
 rw [LL_for (γ := Unit) p () (fun i _ => [(7, .int .i64 i)]) (fun _ _ => []) (fun i rest _ => if disjR (als A) o (p.take i) rest = true then (.exit 0, [(7, undef)], []) else (.ret, [(6, .bool false), (7, undef)], [])) (fun _ _ => True) (by omega) trivial]
 ·rw [List.take_zero, ← hR]
  cases R
  ·simp -implicitDefEqProofs [k56_2]
  ·simp -implicitDefEqProofs [k56_2]
 ·simp -implicitDefEqProofs [k56_2]
 ·rfl
 ·intro nx i c hi _
  have e0 : disjR (als A) o (p.take i) [] = true := rfl
  rw [e0]
  simp -implicitDefEqProofs [r56_2, k56_2, lP, hi, trim_le]
 ·intro nx i v rest c hi hv hd hw _ ih
  have ih := ih () trivial
  have hi2 : ((i : Int) < (p.length : Int)) := by omega
  have x1 := iP i hi
  rw [hv] at x1
  have hvA : v < A.length := hp v (by rw [← hv]; exact List.getElem_mem hi)
  obtain ⟨k', t1, t2⟩ := tk i (by omega)
  have ac := ac v hvA i k' t2
  have ic := ic v
  rw [mem_cast] at ic
  have e2 : (((i + 1 : Nat) : Int)) = (i : Int) + 1 := by omega
  have et : p.take (i + 1) = p.take i ++ [v] := by rw [List.take_succ_eq_append_getElem hi, hv]
  rw [et, e2] at ih
  have ed : disjR (als A) o (p.take i) (v :: rest) = (decide (v ∈ o) && (apartR (als A) v (p.take i) && disjR (als A) o (p.take i ++ [v]) rest)) := rfl
  rw [ed]
  generalize disjR (als A) o (p.take i ++ [v]) rest = rd at *
  generalize intE.o k' (castL (p.take i)) = VT at *
  generalize apartR (als A) v (p.take i) = ap at *
  generalize decide (v ∈ o) = vo at *
  simp -implicitDefEqProofs [k56_2] at ih
  cases vo
  ·rw [Bool.false_and]
   simp -implicitDefEqProofs [r56_2, k56_2, lP, hi2, x1, ic, trim_le]
  ·rw [Bool.true_and]
   cases ap
   ·rw [Bool.false_and]
    simp -implicitDefEqProofs [r56_2, k56_2, lP, hi2, x1, ic, t1, ac, trim_le]
   ·rw [Bool.true_and]
    simp -implicitDefEqProofs [r56_2, k56_2, lP, hi2, x1, ic, t1, ac, hw, ih, trim_le]
end Go.Proofs.YtgefjhjmkejjbaaDoor.Bm
namespace Go.Proofs.YtgefjhjmkejjbaaDoor.Co
variable {S : Type} [DecidableEq S]
theorem ins_front {lt : S → S → Bool} {s : S} : ∀ {u v : List S}, (∀ a ∈ u, lt a s = true) → insF lt s (u ++ v) = u ++ insF lt s v
 | [], _, _ => rfl
 | a :: u, v, h => by
  show (if lt a s = true then a :: insF lt s (u ++ v) else if a = s then a :: (u ++ v) else s :: a :: (u ++ v)) = _
  rw [if_pos (h a List.mem_cons_self), ins_front fun b hb => h b (List.mem_cons_of_mem _ hb)]; rfl
theorem ins_here {lt : S → S → Bool} (ho : Ord lt) {s : S} : ∀ {v : List S}, (∀ a ∈ v, lt s a = true) → insF lt s v = s :: v
 | [], _ => rfl
 | a :: v, h => by
  have h1 := h a List.mem_cons_self
  show (if lt a s = true then a :: insF lt s v else if a = s then a :: v else s :: a :: v) = _
  rw [if_neg (by rw [ho.asym _ _ h1]; decide), if_neg (by rintro rfl; rw [ho.irr] at h1; cases h1)]
theorem ins_old {lt : S → S → Bool} (ho : Ord lt) {s : S} : ∀ {o : List S}, AscL lt o → s ∈ o → insF lt s o = o
 | [], _, h => by cases h
 | a :: o, ha, h => by
  obtain ⟨h1, h2⟩ := List.pairwise_cons.1 ha
  show (if lt a s = true then a :: insF lt s o else if a = s then a :: o else s :: a :: o) = _
  rcases List.mem_cons.1 h with rfl | h
  ·rw [if_neg (by rw [ho.irr]; decide), if_pos rfl]
  ·rw [if_pos (h1 s h), ins_old ho h2 h]
theorem ins_at {lt : S → S → Bool} (ho : Ord lt) {s : S} {o : List S} {k : Nat} (hs : s ∉ o) (ha : AscL lt o) (hk : k ≤ o.length) (h1 : ∀ a ∈ o.drop k, lt s a = true) (h2 : ∀ h : k - 1 < o.length, 0 < k → lt s o[k - 1] = false) : insF lt s o = o.take k ++ s :: o.drop k := by
 have e : insF lt s (o.take k ++ o.drop k) = o.take k ++ insF lt s (o.drop k) := ins_front fun a hm => by
  obtain ⟨j, hj, rfl⟩ := List.mem_iff_getElem.1 hm
  rw [List.length_take] at hj
  rw [List.getElem_take]
  have hk1 : k - 1 < o.length := by omega
  have h3 := h2 hk1 (by omega)
  have h4 : lt o[k - 1] s = true := by
   rcases ho.tri o[k - 1] s with h | h | h
   ·exact h
   ·exact absurd (h ▸ List.getElem_mem hk1) hs
   ·rw [h3] at h; cases h
  by_cases hjk : j = k - 1
  ·subst hjk; exact h4
  ·exact ho.trans _ _ _ (List.pairwise_iff_getElem.1 ha j (k - 1) (by omega) hk1 (by omega)) h4
 rw [List.take_append_drop] at e
 rw [e, ins_here ho h1]
def packO (l : List (List S)) (n : Nat) : List Nat → Option Bool × List Nat → Option Bool × List Nat
 | [], g => if g.2.length = n then g else (none, [])
 | i :: r, g => if g.2.length = n then g else if apartR l i g.2 = true then (if (packO l n r (some false, g.2 ++ [i])).2 = [] then packO l n r g else packO l n r (some false, g.2 ++ [i])) else packO l n r g
theorem packO_nil (l : List (List S)) (n : Nat) (g : Option Bool × List Nat) : packO l n [] g = if g.2.length = n then g else (none, []) := rfl
theorem packO_cons (l : List (List S)) (n i : Nat) (r : List Nat) (g : Option Bool × List Nat) : packO l n (i :: r) g = if g.2.length = n then g else if apartR l i g.2 = true then (if (packO l n r (some false, g.2 ++ [i])).2 = [] then packO l n r g else packO l n r (some false, g.2 ++ [i])) else packO l n r g := rfl
theorem packO_snd (l : List (List S)) (n : Nat) : ∀ (r : List Nat) (g : Option Bool × List Nat), (packO l n r g).2 = packR l n r g.2
 | [], g => by
  rw [packO_nil, packR_nil]
  split <;> rfl
 | i :: r, g => by
  rw [packO_cons, packR_cons]
  have h1 := packO_snd l n r (some false, g.2 ++ [i])
  have h2 := packO_snd l n r g
  split
  ·rfl
  split
  ·rw [h1, ← h2]
   split
   ·rfl
   ·exact h1
  ·exact h2
theorem packO_ok (l : List (List S)) (n : Nat) : ∀ (r : List Nat) (g : Option Bool × List Nat), (g.1 = none → g.2 = []) → (packO l n r g).1 = none → (packO l n r g).2 = []
 | [], g, hg => by
  rw [packO_nil]
  split
  ·exact hg
  ·exact fun _ => rfl
 | i :: r, g, hg => by
  rw [packO_cons]
  have h1 := packO_ok l n r (some false, g.2 ++ [i]) fun h => by cases h
  have h2 := packO_ok l n r g hg
  split
  ·exact hg
  split
  ·split
   ·exact h2
   ·exact h1
  ·exact h2
abbrev RowK := Option Bool × List (Option Bool × List Int)
def badK : RowK × Bool := ((none, []), false)
def readL (g : RowK → Nat → RowK × Bool) : List Nat → RowK × Bool → RowK × Bool
 | [], s => s
 | i :: r, s => if s.2 = true then readL g r (g s.1 i) else s
def readV (l : List (List S)) : Nat → List S → RowK → RowK × Bool
 | _, _, (_, []) => badK
 | f, c, (k, x :: rest) => match x.2 with
  | [] => badK
  | c0 :: t =>
   if c0 = 0 then ((k, rest), (idxF l.length t && decide (f ≤ t.length)) && disjR l (openR l c) [] (t.map Int.toNat))
   else match f, t with
    | f + 1, k0 :: n =>
     if n = [] ∨ f = 0 then badK else if c0 ≠ 1 ∨ ¬ k0 ∈ (openR l c).map Int.ofNat then badK
     else if (idxF (l.getD k0.toNat []).length n && coversR l (openR l c) (l.getD k0.toNat []) (n.map Int.toNat)) = true then
      readL (fun s i => match (l.getD k0.toNat [])[i]? with | some y => readV l f (c ++ [y]) s | none => badK) (n.map Int.toNat) ((k, rest), true)
     else badK
    | _, _ => badK
structure ReadOk (R : RowK) (r : RowK × Bool) (want : Option (List (List Int))) : Prop where
 suf : ∀ x ∈ r.1.2, x ∈ R.2
 len : r.1.2.length ≤ R.2.length
 ok : r.1.1 = none → r.1.2 = []
 yes : r.2 = true → want = some (r.1.2.map (·.2))
 no : r.2 = false → want = none
theorem ReadOk.bad {R : RowK} : ReadOk R badK none where
 suf := fun x h => by cases h
 len := Nat.zero_le _
 ok := fun _ => rfl
 yes := fun h => by cases h
 no := fun _ => rfl
theorem readL_ok {g : RowK → Nat → RowK × Bool} {w : List (List Int) → Nat → Option (List (List Int))} (hg : ∀ (s : RowK) i, (s.1 = none → s.2 = []) → ReadOk s (g s i) (w (s.2.map (·.2)) i)) (R : RowK) :
  ∀ (n : List Nat) (s : RowK × Bool), (s.1.1 = none → s.1.2 = []) → (∀ x ∈ s.1.2, x ∈ R.2) → s.1.2.length ≤ R.2.length → s.2 = true → ReadOk R (readL g n s) (n.foldlM w (s.1.2.map (·.2)))
 | [], s, h1, h2, h3, h4 => ⟨h2, h3, h1, fun _ => rfl, fun h => by
  have h : s.2 = false := h
  rw [h4] at h; cases h⟩
 | i :: n, s, h1, h2, h3, h4 => by
  have k := hg s.1 i h1
  rw [List.foldlM_cons]
  unfold readL
  rw [if_pos h4]
  cases hb : (g s.1 i).2
  ·rw [k.no hb]
   have e : readL g n (g s.1 i) = g s.1 i := by
    cases n with
    | nil => rfl
    | cons a n => unfold readL; rw [if_neg (by rw [hb]; decide)]
   rw [e]
   exact { suf := fun x hx => h2 x (k.suf x hx), len := Nat.le_trans k.len h3, ok := k.ok, yes := fun h => absurd (hb.symm.trans h) (by decide), no := fun _ => rfl }
  ·rw [k.yes hb]
   exact readL_ok hg R n (g s.1 i) k.ok (fun x hx => h2 x (k.suf x hx)) (Nat.le_trans k.len h3) hb
theorem open_cast {l : List (List S)} {c : List S} {k0 : Int} : k0 ∈ (openR l c).map Int.ofNat ↔ (¬ (k0 < 0 ∨ (l.length : Int) ≤ k0) ∧ (leftF l c).testBit k0.toNat = true) := by
 have hw := left_within l c
 rw [openR_eq, List.mem_map]
 constructor
 ·rintro ⟨j, hj, rfl⟩
  have := (opens_mem hw).1 hj
  have h2 := hw j this
  exact ⟨by show ¬ ((j : Int) < 0 ∨ (l.length : Int) ≤ (j : Int)); omega, this⟩
 ·rintro ⟨h1, h2⟩
  exact ⟨k0.toNat, (opens_mem hw).2 h2, by show ((k0.toNat : Nat) : Int) = k0; omega⟩
theorem read_ok (l : List (List S)) : ∀ (f : Nat) (c : List S) (R : RowK), (R.1 = none → R.2 = []) → ReadOk R (readV l f c R) (followF l f (R.2.map (·.2)) (leftF l c))
 | f, c, (k, []), _ => by
  cases f <;> exact ReadOk.bad
 | f, c, (k, x :: rest), hR => by
  obtain ⟨kx, x⟩ := x
  have hw := left_within l c
  have hk : k ≠ none := fun e => by cases hR e
  have sr : ∀ y ∈ rest, y ∈ ((kx, x) :: rest) := fun y hy => List.mem_cons_of_mem _ hy
  cases x with
  | nil => cases f <;> exact ReadOk.bad
  | cons c0 t =>
   by_cases h0 : c0 = 0
   ·subst h0
    have e1 : readV l f c (k, (kx, 0 :: t) :: rest) = ((k, rest), (idxF l.length t && decide (f ≤ t.length)) && disjR l (openR l c) [] (t.map Int.toNat)) := by
     cases f
     ·exact if_pos rfl
     ·unfold readV
      exact if_pos rfl
    have e2 : followF l f (((kx, 0 :: t) :: rest).map (·.2)) (leftF l c) = if decide (f ≤ t.length) && (idxF l.length t && packedF l (leftF l c) [] (t.map (·.toNat))) then some (rest.map (·.2)) else none := by
     cases f
     ·exact if_pos rfl
     ·unfold followF
      exact if_pos rfl
    rw [e1, e2, openR_eq, disjR_eq l hw _ _ fun k hk => by cases hk]
    have e3 : (decide (f ≤ t.length) && (idxF l.length t && packedF l (leftF l c) [] (t.map (·.toNat)))) = ((idxF l.length t && decide (f ≤ t.length)) && packedF l (leftF l c) [] (t.map Int.toNat)) := by
     generalize packedF l (leftF l c) [] (t.map Int.toNat) = p1
     cases decide (f ≤ t.length) <;> cases idxF l.length t <;> cases p1 <;> rfl
    rw [e3]
    refine ⟨sr, Nat.le_succ _, fun h => absurd h hk, fun h => ?_, fun h => ?_⟩
    ·exact if_pos h
    ·exact if_neg (by
      intro q
      have h : _ = false := h
      rw [q] at h; cases h)
   ·have bad : readV l f c (k, (kx, c0 :: t) :: rest) = badK → followF l f (((kx, c0 :: t) :: rest).map (·.2)) (leftF l c) = none → ReadOk (k, (kx, c0 :: t) :: rest) (readV l f c (k, (kx, c0 :: t) :: rest)) (followF l f (((kx, c0 :: t) :: rest).map (·.2)) (leftF l c)) := fun a b => by
     rw [a, b]; exact ReadOk.bad
    cases f with
    | zero =>
     refine bad ?_ ?_
     ·show (if c0 = 0 then _ else badK) = badK
      rw [if_neg h0]
     ·show (if c0 = 0 then _ else if c0 = 1 then none else none) = none
      rw [if_neg h0]; split <;> rfl
    | succ f =>
     cases t with
     | nil =>
      refine bad ?_ ?_
      ·show (if c0 = 0 then _ else badK) = badK
       rw [if_neg h0]
      ·show (if c0 = 0 then _ else if c0 = 1 then none else none) = none
       rw [if_neg h0]; split <;> rfl
     | cons k0 n =>
      have e1 : readV l (f + 1) c (k, (kx, c0 :: k0 :: n) :: rest) = if n = [] ∨ f = 0 then badK else if c0 ≠ 1 ∨ ¬ k0 ∈ (openR l c).map Int.ofNat then badK
       else if (idxF (l.getD k0.toNat []).length n && coversR l (openR l c) (l.getD k0.toNat []) (n.map Int.toNat)) = true then
        readL (fun s i => match (l.getD k0.toNat [])[i]? with | some y => readV l f (c ++ [y]) s | none => badK) (n.map Int.toNat) ((k, rest), true)
       else badK := by
       show (if c0 = 0 then _ else _) = _
       rw [if_neg h0]
      have e2 : followF l (f + 1) (((kx, c0 :: k0 :: n) :: rest).map (·.2)) (leftF l c) = if c0 = 1 then (if n = [] ∨ f = 0 ∨ k0 < 0 ∨ (l.length : Int) ≤ k0 then none
       else if (leftF l c).testBit k0.toNat && (idxF (l.getD k0.toNat []).length n && replF l (leftF l c) (l.getD k0.toNat []) (n.map (·.toNat))) then
        n.foldlM (fun r i => followF l f r (rem (leftF l c) ((maskF l <$> (l.getD k0.toNat [])[i.toNat]?).getD 0))) (rest.map (·.2))
       else none) else none := by
       show (if c0 = 0 then _ else _) = _
       rw [if_neg h0]
      by_cases h1 : n = [] ∨ f = 0
      ·refine bad ?_ ?_
       ·rw [e1, if_pos h1]
       ·rw [e2]
        split
        ·rw [if_pos (by
          rcases h1 with h | h
          ·exact .inl h
          ·exact .inr (.inl h))]
        ·rfl
      rw [if_neg h1] at e1
      by_cases h2 : c0 ≠ 1 ∨ ¬ k0 ∈ (openR l c).map Int.ofNat
      ·refine bad ?_ ?_
       ·rw [e1, if_pos h2]
       ·rw [e2]
        rcases h2 with h2 | h2
        ·rw [if_neg h2]
        ·split
         ·split
          ·rfl
          ·rename_i q
           refine if_neg fun q2 => ?_
           rw [Bool.and_eq_true] at q2
           exact h2 (open_cast.2 ⟨fun q3 => q (.inr (.inr q3)), q2.1⟩)
         ·rfl
      rw [if_neg h2] at e1
      obtain ⟨h3, h4⟩ : c0 = 1 ∧ k0 ∈ (openR l c).map Int.ofNat := ⟨Classical.byContradiction fun q => h2 (.inl q), Classical.byContradiction fun q => h2 (.inr q)⟩
      obtain ⟨h5, h6⟩ := open_cast.1 h4
      rw [if_pos h3, if_neg (by
       rintro (q | q | q)
       ·exact h1 (.inl q)
       ·exact h1 (.inr q)
       ·exact h5 q), h6, Bool.true_and] at e2
      have hcv : idxF (l.getD k0.toNat []).length n = true → coversR l (openR l c) (l.getD k0.toNat []) (n.map Int.toNat) = replF l (leftF l c) (l.getD k0.toNat []) (n.map (·.toNat)) := fun q => by
       rw [openR_eq]
       refine coversR_eq l hw _ fun j hj => ?_
       obtain ⟨i, hi, rfl⟩ := List.mem_map.1 hj
       have := idx_mem q i hi
       omega
      by_cases h7 : (idxF (l.getD k0.toNat []).length n && coversR l (openR l c) (l.getD k0.toNat []) (n.map Int.toNat)) = true
      ·rw [if_pos h7] at e1
       have h8 := (Bool.and_eq_true _ _ ▸ h7).1
       rw [hcv h8] at h7
       rw [if_pos h7] at e2
       rw [e1, e2]
       have key := readL_ok (g := fun s i => match (l.getD k0.toNat [])[i]? with | some y => readV l f (c ++ [y]) s | none => badK)
        (w := fun r i => match (l.getD k0.toNat [])[i]? with | some y => followF l f r (rem (leftF l c) (maskF l y)) | none => none)
        (fun s i hs => by
         show ReadOk s (match (l.getD k0.toNat [])[i]? with | some y => readV l f (c ++ [y]) s | none => badK) (match (l.getD k0.toNat [])[i]? with | some y => followF l f _ (rem (leftF l c) (maskF l y)) | none => none)
         cases (l.getD k0.toNat [])[i]? with
         | none => exact ReadOk.bad
         | some y =>
          have := read_ok l f (c ++ [y]) s hs
          rw [left_snoc] at this
          exact this) (k, (kx, c0 :: k0 :: n) :: rest) (n.map Int.toNat) ((k, rest), true) (fun h => absurd h hk) sr (Nat.le_succ _) rfl
       have ew : ∀ (m : List Int) (r : List (List Int)), (∀ i ∈ m, i.toNat < (l.getD k0.toNat []).length) → m.foldlM (fun r i => followF l f r (rem (leftF l c) ((maskF l <$> (l.getD k0.toNat [])[i.toNat]?).getD 0))) r = (m.map Int.toNat).foldlM (fun r i => match (l.getD k0.toNat [])[i]? with | some y => followF l f r (rem (leftF l c) (maskF l y)) | none => none) r := by
        intro m
        induction m with
        | nil => intro r _; rfl
        | cons i m ih =>
         intro r hm
         have hi := hm i List.mem_cons_self
         rw [List.map_cons, List.foldlM_cons, List.foldlM_cons, List.getElem?_eq_getElem hi]
         show (followF l f r (rem (leftF l c) (maskF l (l.getD k0.toNat [])[i.toNat]))).bind _ = (followF l f r (rem (leftF l c) (maskF l (l.getD k0.toNat [])[i.toNat]))).bind _
         cases followF l f r (rem (leftF l c) (maskF l (l.getD k0.toNat [])[i.toNat])) with
         | none => rfl
         | some r' =>
          rw [Option.bind_some, Option.bind_some]
          exact ih r' fun j hj => hm j (List.mem_cons_of_mem _ hj)
       rw [ew n _ fun i hi => by
        have := idx_mem h8 i hi
        omega]
       exact key
      ·refine bad ?_ ?_
       ·rw [e1, if_neg h7]
       ·rw [e2, if_neg]
        intro q
        have q1 := (Bool.and_eq_true _ _ ▸ q).1
        rw [← hcv q1] at q
        exact h7 q
end Go.Proofs.YtgefjhjmkejjbaaDoor.Co
