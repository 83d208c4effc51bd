/-
 Chapter 27: the reference's looks at numbers: index, apart, bits. Conditions: each lemma says its own.
-/
import Derived.Test.YtgefjhjmkejjbaaDoorQB24
import Derived.Test.YtgefjhjmkejjbaaDoorQB19
namespace Go.Proofs.YtgefjhjmkejjbaaDoor.Bm
open Go Go.RowKit
open Co (ltB ascB rem maskF allF proveF coreF namesF errF followF hitsF lessL)
abbrev RowL := List (Option Bool × List Int)
def sameR : RowL → RowL → Bool
 | x :: R, y :: T => (decide (x.2.length = y.2.length) && sameB x.2 y.2) && sameR R T
 | _, _ => true
theorem sameR_eq : ∀ {R T : RowL}, R.length = T.length → sameR R T = decide (R.map (·.2) = T.map (·.2))
 | [], [], _ => rfl
 | [], _ :: _, h => by simp at h
 | _ :: _, [], h => by simp at h
 | x :: R, y :: T, h => by
  have ih := sameR_eq (R := R) (T := T) (by simpa using h)
  show ((decide (x.2.length = y.2.length) && sameB x.2 y.2) && sameR R T) = _
  rw [ih]
  by_cases hl : x.2.length = y.2.length
  ·rw [same_eq hl, decide_eq_true hl, Bool.true_and, Bool.eq_iff_iff]
   simp
  ·rw [decide_eq_false hl, Bool.false_and, Bool.false_and, eq_comm, decide_eq_false_iff_not]
   intro e
   rw [List.map_cons, List.map_cons] at e
   exact hl (by rw [(List.cons.inj e).1])
set_option maxHeartbeats 2000000 in
theorem proofs_spec {ka kb : Option Bool} {R T : RowL} (hR : FlP ka R) (hT : FlP kb T) (hRl : R.length ≤ 1000000000000) : pureCall E.P (L E) 16 [rowE.o ka R, rowE.o kb T] = some (.bool (decide (R.map (·.2) = T.map (·.2)))) := by
 have la : ∀ H, lenT .sl H (rowE.o ka R) = some (.int .i64 R.length) := fun H => Enc.o_len hR.kk
 have lb : ∀ H, lenT .sl H (rowE.o kb T) = some (.int .i64 T.length) := fun H => Enc.o_len hT.kk
 have ia : ∀ (i : Nat) (hi : i < R.length), indexAddrT (.sl 42 ⟨some false, some 1⟩) (rowE.o ka R) (.int .i64 (i : Int)) = some (cptr (rowE.e R[i])) := fun i hi => Enc.index_o hR.kk hi
 have ib : ∀ (i : Nat) (hi : i < T.length), indexAddrT (.sl 42 ⟨some false, some 1⟩) (rowE.o kb T) (.int .i64 (i : Int)) = some (cptr (rowE.e T[i])) := fun i hi => Enc.index_o hT.kk hi
 rw [pureCall_fn F16 rfl]
 generalize rowE.o ka R = VA at *
 generalize rowE.o kb T = VB at *
 by_cases hl : R.length = T.length
 ·rw [← sameR_eq hl]
  simp -implicitDefEqProofs [r16, p16, la, lb, hl]
  rw [LL_for (γ := Unit) R () (fun i _ => [(5, .int .i64 i)]) (fun _ _ => []) (fun i rest _ => if sameR rest (T.drop i) = true then (.exit 0, [(5, undef)], []) else (.ret, [(4, .bool false), (5, undef)], [])) (fun _ _ => True) (by omega) trivial]
  ·rw [List.drop_zero]
   by_cases q : sameR R T = true
   ·simp -implicitDefEqProofs [k16_4, q]
   ·simp -implicitDefEqProofs [k16_4, q]
  ·simp -implicitDefEqProofs [k16_4]
  ·rfl
  ·intro nx i c hi _
   have e : ∀ y, sameR [] y = true := fun _ => rfl
   simp -implicitDefEqProofs [r16_4, k16_4, la, hi, hl, e, trim_le]
  ·intro nx i v rest c hi hv hd hw _ ih
   have ih := ih () trivial
   have hi2 : ((i : Int) < R.length) := by omega
   have hi3 : ((i : Int) < T.length) := by omega
   have x1 := ia i hi
   have hib : i < T.length := by omega
   have x2 := ib i hib
   rw [hv] at x1
   have hvr := hR.rows v (by rw [← hv]; exact List.getElem_mem hi)
   have htr := hT.rows T[i] (List.getElem_mem hib)
   have e2 : (((i + 1 : Nat) : Int)) = (i : Int) + 1 := by omega
   rw [e2] at ih
   rw [List.drop_eq_getElem_cons hib]
   rw [show sameR (v :: rest) (T[i] :: T.drop (i + 1)) = ((decide (v.2.length = T[i].2.length) && sameB v.2 T[i].2) && sameR rest (T.drop (i + 1))) from rfl]
   simp -implicitDefEqProofs [k16_4] at ih
   generalize T[i] = y at *
   generalize T.drop (i + 1) = bd at *
   have le1 : ∀ h sz, loadT ⟨some false, sz⟩ h (cptr (rowE.e v)) = some (intE.o v.1 v.2) := fun h sz => Enc.load_e (O := rowE) _
   have le2 : ∀ h sz, loadT ⟨some false, sz⟩ h (cptr (rowE.e y)) = some (intE.o y.1 y.2) := fun h sz => Enc.load_e (O := rowE) _
   have lv : ∀ H, lenT .sl H (intE.o v.1 v.2) = some (.int .i64 v.2.length) := fun H => Enc.o_len hvr.1
   have ly : ∀ H, lenT .sl H (intE.o y.1 y.2) = some (.int .i64 y.2.length) := fun H => Enc.o_len htr.1
   have iv : ∀ (j : Nat) (hj : j < v.2.length), indexAddrT (.sl 3 ⟨some false, some 1⟩) (intE.o v.1 v.2) (.int .i64 (j : Int)) = some (cptr (.int .i64 v.2[j])) := fun j hj => Enc.index_o hvr.1 hj
   have iy : ∀ (j : Nat) (hj : j < y.2.length), indexAddrT (.sl 3 ⟨some false, some 1⟩) (intE.o y.1 y.2) (.int .i64 (j : Int)) = some (cptr (.int .i64 y.2[j])) := fun j hj => Enc.index_o htr.1 hj
   have hvl := hvr.2
   generalize intE.o v.1 v.2 = VX at *
   generalize intE.o y.1 y.2 = VY at *
   generalize cptr (rowE.e v) = PX at *
   generalize cptr (rowE.e y) = PY at *
   generalize v.2 = xs at *
   generalize y.2 = ys at *
   by_cases q : xs.length = ys.length
   ·rw [decide_eq_true q, Bool.true_and]
    simp -implicitDefEqProofs [r16_4, k16_4, la, hi3, hl, x1, x2, le1, le2, lv, ly, q]
    rw [LL_for (γ := Unit) xs () (fun j _ => [(6, .int .i64 j)]) (fun _ _ => []) (fun j rest _ => if sameB rest (ys.drop j) = true then (.exit 2, [(6, undef)], []) else (.ret, [(4, .bool false), (6, undef)], [])) (fun _ _ => True) (by omega) trivial]
    ·rw [List.drop_zero]
     cases q2 : sameB xs ys
     ·simp -implicitDefEqProofs [k16_9, trim_le]
     ·simp -implicitDefEqProofs [k16_9, trim_le, hw, ih]
    ·simp -implicitDefEqProofs [k16_9]
    ·rfl
    ·intro nx2 j c2 hj _
     have e : ∀ y : List Int, sameB [] y = true := fun _ => rfl
     simp -implicitDefEqProofs [r16_9, k16_9, x1, le1, lv, hj, q, e, trim_le]
    ·intro nx2 j u rest2 c2 hj hu hd2 hw2 _ ih2
     have ih2 := ih2 () trivial
     have hj2 : ((j : Int) < xs.length) := by omega
     have hj3 : ((j : Int) < ys.length) := by omega
     have hjb : j < ys.length := by omega
     have z1 := iv j hj
     have z2 := iy j hjb
     rw [hu] at z1
     have e3 : (((j + 1 : Nat) : Int)) = (j : Int) + 1 := by omega
     rw [e3] at ih2
     rw [List.drop_eq_getElem_cons hjb]
     rw [show sameB (u :: rest2) (ys[j] :: ys.drop (j + 1)) = (decide (u = ys[j]) && sameB rest2 (ys.drop (j + 1))) from rfl]
     simp -implicitDefEqProofs [k16_9] at ih2
     generalize ys[j] = bi at *
     generalize ys.drop (j + 1) = bd2 at *
     by_cases q2 : u = bi
     ·subst q2
      simp -implicitDefEqProofs [r16_9, k16_9, hj3, q, x1, x2, le1, le2, lv, z1, z2, trim_le, hw2, ih2]
     ·simp -implicitDefEqProofs [r16_9, k16_9, hj3, q, q2, x1, x2, le1, le2, lv, z1, z2, trim_le]
   ·rw [decide_eq_false q, Bool.false_and, Bool.false_and]
    have q' : ¬ (xs.length : Int) = (ys.length : Int) := by omega
    simp -implicitDefEqProofs [q', r16_4, k16_4, la, hi3, hl, x1, x2, le1, le2, lv, ly, trim_le]
 ·have : decide (R.map (·.2) = T.map (·.2)) = false := decide_eq_false fun e => hl (by
   have := congrArg List.length e
   rw [List.length_map, List.length_map] at this
   exact this)
  rw [this]
  have hl' : ¬ (R.length : Int) = (T.length : Int) := by omega
  simp -implicitDefEqProofs [hl', r16, p16, la, lb]
def fewB (R : RowL) : Bool := R.all fun x => decide (x.2.length ≤ 14)
theorem few_spec {k : Option Bool} {R : RowL} (hk : Enc.Ok k R) (hrow : ∀ x ∈ R, Enc.Ok x.1 x.2) (hl : R.length ≤ 9223372036854775807) : pureCall E.P (L E) 10 [rowE.o k R] = some (.bool (fewB R && decide (R.length ≤ 200))) := by
 have la : ∀ H, lenT .sl H (rowE.o k R) = some (.int .i64 R.length) := fun H => Enc.o_len hk
 have ia : ∀ (i : Nat) (hi : i < R.length), indexAddrT (.sl 42 ⟨some false, some 1⟩) (rowE.o k R) (.int .i64 (i : Int)) = some (cptr (rowE.e R[i])) := fun i hi => Enc.index_o hk hi
 have e200 : decide ((R.length : Int) ≤ 200) = decide (R.length ≤ 200) := by
  rw [Bool.eq_iff_iff, decide_eq_true_eq, decide_eq_true_eq]; omega
 rw [pureCall_fn F10 rfl]
 generalize rowE.o k R = VA at *
 simp -implicitDefEqProofs [r10, p10]
 rw [LL_for (γ := Unit) R () (fun i _ => [(3, .int .i64 i)]) (fun _ _ => []) (fun i rest _ => if fewB rest = true then (.exit 0, [(3, undef)], []) else (.ret, [(2, .bool false), (3, undef)], [])) (fun _ _ => True) hl trivial]
 ·cases q : fewB R
  ·simp -implicitDefEqProofs [k10_2]
  ·simp -implicitDefEqProofs [k10_2, la, e200]
 ·simp -implicitDefEqProofs [k10_2]
 ·rfl
 ·intro nx i c hi _
  have e : fewB [] = true := rfl
  simp -implicitDefEqProofs [r10_2, k10_2, la, hi, e, trim_le]
 ·intro nx i v rest c hi hv hd hw _ ih
  have ih := ih () trivial
  have hi2 : ((i : Int) < R.length) := by omega
  have x1 := ia i hi
  rw [hv] at x1
  have hvr := hrow v (by rw [← hv]; exact List.getElem_mem hi)
  have le1 : ∀ h sz, loadT ⟨some false, sz⟩ h (cptr (rowE.e v)) = some (intE.o v.1 v.2) := fun h sz => Enc.load_e (O := rowE) _
  have lv : ∀ H, lenT .sl H (intE.o v.1 v.2) = some (.int .i64 v.2.length) := fun H => Enc.o_len hvr
  have e2 : (((i + 1 : Nat) : Int)) = (i : Int) + 1 := by omega
  rw [e2] at ih
  rw [show fewB (v :: rest) = (decide (v.2.length ≤ 14) && fewB rest) from rfl]
  simp -implicitDefEqProofs [k10_2] at ih
  by_cases q : v.2.length ≤ 14
  ·have q' : ¬ (14 : Int) < (v.2.length : Int) := by omega
   simp -implicitDefEqProofs [r10_2, k10_2, la, hi2, x1, le1, lv, q, q', trim_le, hw, ih]
  ·have q' : (14 : Int) < (v.2.length : Int) := by omega
   simp -implicitDefEqProofs [r10_2, k10_2, la, hi2, x1, le1, lv, q, q', trim_le]
end Go.Proofs.YtgefjhjmkejjbaaDoor.Bm
namespace Go.Proofs.YtgefjhjmkejjbaaDoor.Bm
open Go Go.RowKit
open Co (ltB ascB rem maskF allF proveF coreF namesF errF followF hitsF lessL)
def fewS (l : List ByteArray) : Bool := l.all fun s => decide (s.size ≤ 40)
def fewA (A : List (Option Bool × List ByteArray)) : Bool := A.all fun x => decide (x.2.length ≤ 14) && fewS x.2
set_option maxHeartbeats 2000000 in
theorem fewA_spec {K : Option Bool} {A : List (Option Bool × List ByteArray)} (hk : Enc.Ok K A) (hrow : ∀ x ∈ A, Enc.Ok x.1 x.2) (hl : A.length ≤ 9223372036854775807) : pureCall E.P (L E) 9 [listE.o K A] = some (.bool (fewA A && decide (A.length ≤ 10))) := by
 have la : ∀ H, lenT .sl H (listE.o K A) = some (.int .i64 A.length) := fun H => Enc.o_len hk
 have ia : ∀ (i : Nat) (hi : i < A.length), indexAddrT (.sl 23 ⟨some false, some 1⟩) (listE.o K A) (.int .i64 (i : Int)) = some (cptr (listE.e A[i])) := fun i hi => Enc.index_o hk hi
 have e10 : decide ((A.length : Int) ≤ 10) = decide (A.length ≤ 10) := by
  rw [Bool.eq_iff_iff, decide_eq_true_eq, decide_eq_true_eq]; omega
 rw [pureCall_fn F9 rfl]
 generalize listE.o K A = VA at *
 simp -implicitDefEqProofs [r9, p9]
 rw [LL_for (γ := Unit) A () (fun i _ => [(3, .int .i64 i)]) (fun _ _ => []) (fun i rest _ => if fewA rest = true then (.exit 0, [(3, undef)], []) else (.ret, [(2, .bool false), (3, undef)], [])) (fun _ _ => True) hl trivial]
 ·cases q : fewA A
  ·simp -implicitDefEqProofs [k9_2]
  ·simp -implicitDefEqProofs [k9_2, la, e10]
 ·simp -implicitDefEqProofs [k9_2]
 ·rfl
 ·intro nx i c hi _
  have e : fewA [] = true := rfl
  simp -implicitDefEqProofs [r9_2, k9_2, la, hi, e, trim_le]
 ·intro nx i v rest c hi hv hd hw _ ih
  have ih := ih () trivial
  have hi2 : ((i : Int) < A.length) := by omega
  have x1 := ia i hi
  rw [hv] at x1
  have hvr := hrow v (by rw [← hv]; exact List.getElem_mem hi)
  have le1 : ∀ h sz, loadT ⟨some false, sz⟩ h (cptr (listE.e v)) = some (strE.o v.1 v.2) := fun h sz => Enc.load_e (O := listE) _
  have lv : ∀ H, lenT .sl H (strE.o v.1 v.2) = some (.int .i64 v.2.length) := fun H => Enc.o_len hvr
  have iv : ∀ (j : Nat) (hj : j < v.2.length), indexAddrT (.sl 9 ⟨some false, some 1⟩) (strE.o v.1 v.2) (.int .i64 (j : Int)) = some (cptr (.string v.2[j])) := fun j hj => Enc.index_o hvr hj
  have e2 : (((i + 1 : Nat) : Int)) = (i : Int) + 1 := by omega
  rw [e2] at ih
  rw [show fewA (v :: rest) = ((decide (v.2.length ≤ 14) && fewS v.2) && fewA rest) from rfl]
  simp -implicitDefEqProofs [k9_2] at ih
  generalize cptr (listE.e v) = PX at *
  generalize strE.o v.1 v.2 = VX at *
  generalize v.2 = xs at *
  by_cases q : xs.length ≤ 14
  ·have q' : ¬ (14 : Int) < (xs.length : Int) := by omega
   rw [decide_eq_true q, Bool.true_and]
   simp -implicitDefEqProofs [r9_2, k9_2, la, hi2, x1, le1, lv, q']
   rw [LL_for (γ := Unit) xs () (fun j _ => [(4, .int .i64 j)]) (fun _ _ => []) (fun j rest _ => if fewS rest = true then (.exit 2, [(4, undef)], []) else (.ret, [(2, .bool false), (4, undef)], [])) (fun _ _ => True) (by omega) trivial]
   ·cases q2 : fewS xs
    ·simp -implicitDefEqProofs [k9_7, trim_le]
    ·simp -implicitDefEqProofs [k9_7, trim_le, hw, ih]
   ·simp -implicitDefEqProofs [k9_7]
   ·rfl
   ·intro nx2 j c2 hj _
    have e : fewS [] = true := rfl
    simp -implicitDefEqProofs [r9_7, k9_7, x1, le1, lv, hj, e, trim_le]
   ·intro nx2 j u rest2 c2 hj hu hd2 hw2 _ ih2
    have ih2 := ih2 () trivial
    have hj2 : ((j : Int) < xs.length) := by omega
    have z1 := iv j hj
    rw [hu] at z1
    have e3 : (((j + 1 : Nat) : Int)) = (j : Int) + 1 := by omega
    rw [e3] at ih2
    rw [show fewS (u :: rest2) = (decide (u.size ≤ 40) && fewS rest2) from rfl]
    simp -implicitDefEqProofs [k9_7] at ih2
    by_cases q2 : u.size ≤ 40
    ·have q2' : ¬ (40 : Int) < (u.size : Int) := by omega
     simp -implicitDefEqProofs [r9_7, k9_7, hj2, x1, le1, lv, z1, q2, q2', trim_le, hw2, ih2]
    ·have q2' : (40 : Int) < (u.size : Int) := by omega
     simp -implicitDefEqProofs [r9_7, k9_7, hj2, x1, le1, lv, z1, q2, q2', trim_le]
  ·have q' : (14 : Int) < (xs.length : Int) := by omega
   rw [decide_eq_false q, Bool.false_and, Bool.false_and]
   simp -implicitDefEqProofs [r9_2, k9_2, la, hi2, x1, le1, lv, q', trim_le]
theorem few_al {K : Option Bool} {A : List (Option Bool × List ByteArray)} (hk : Enc.Ok K A) (hrow : ∀ x ∈ A, Enc.Ok x.1 x.2) (h1 : fewA A = true) (h2 : A.length ≤ 10) : AlOk K A := ⟨hk, hrow, fun x hx => by
 have := List.all_eq_true.1 h1 x hx
 simp only [Bool.and_eq_true, decide_eq_true_eq] at this
 omega, by omega⟩
end Go.Proofs.YtgefjhjmkejjbaaDoor.Bm
namespace Go.Proofs.YtgefjhjmkejjbaaDoor.Bm
open Go Go.RowKit
open Co (ltB ascB rem maskF allF proveF coreF namesF errF followF hitsF lessL)
theorem frzAll_o {k : Option Bool} {A : List (Option Bool × List ByteArray)} {lo : Nat} {h : Heap} : frzAll E.P lo [listE.o k A] h = some ([listE.o k A], h) := by cases k <;> rfl
theorem prv_set {k : Option Bool} {A : List (Option Bool × List ByteArray)} : [listE.o k A].all (settled 8) = true := by cases k <;> rfl
theorem least_call {K : Option Bool} {A : List (Option Bool × List ByteArray)} (a : AlOk K A) {lo : Nat} {h : Heap} : retCall E (L E) lo false 11 [listE.o K A] h = some (.tuple #[strE.o (coreO A).1 (coreO A).2, .int .i64 (errV A)], h) := by
 rw [ret4 m11, frzAll_o, Option.bind_some, least_top a]; rfl
theorem prove_call {K : Option Bool} {A : List (Option Bool × List ByteArray)} (a : AlOk K A) {lo : Nat} {st : Bool} {h : Heap} : retCall E (L E) lo st 13 [listE.o K A] h = some (.tuple #[rowE.o (proofO A).1 (proofO A).2, .int .i64 (errV A)], h) := by
 rw [ret1s m13 prv_set, prove_top a]; rfl
theorem hits_call {K kc : Option Bool} {A : List (Option Bool × List ByteArray)} {c : List ByteArray} (a : AlOk K A) (hkc : Enc.Ok kc c) (hc : c.length ≤ 1000000) {lo : Nat} {st : Bool} {h : Heap} : retCall E (L E) lo st 17 [listE.o K A, strE.o kc c] h = some (.bool (hitsF (als A) c), h) := by
 have r1 : ∀ H, reify E.P 8 H (listE.o K A) = some (listE.o K A) := fun H => Enc.o_reify
 have r2 : ∀ H, reify E.P 8 H (strE.o kc c) = some (strE.o kc c) := fun H => Enc.o_reify
 have ht := hits_top a hkc hc
 simp -implicitDefEqProofs [ret0 m17, r1, r2, ht]
theorem check_call {K kc : Option Bool} {A : List (Option Bool × List ByteArray)} {c : List ByteArray} {kp : Option Bool} {R : RowL} (a : AlOk K A) (hkc : Enc.Ok kc c) (hc : c.length ≤ 1000000) (hR : FlP kp R) {lo : Nat} {st : Bool} {h : Heap} : retCall E (L E) lo st 19 [listE.o K A, strE.o kc c, rowE.o kp R] h = some (.int .i64 (checkV A c (R.map (·.2))), h) := by
 have r1 : ∀ H, reify E.P 8 H (listE.o K A) = some (listE.o K A) := fun H => Enc.o_reify
 have r2 : ∀ H, reify E.P 8 H (strE.o kc c) = some (strE.o kc c) := fun H => Enc.o_reify
 have r3 : ∀ H, reify E.P 8 H (rowE.o kp R) = some (rowE.o kp R) := fun H => Enc.o_reify
 have ht := check_top a hkc hc hR
 simp -implicitDefEqProofs [ret0 m19, r1, r2, r3, ht]
theorem texts_call {ka kb : Option Bool} {a b : List ByteArray} (hka : Enc.Ok ka a) (hkb : Enc.Ok kb b) (ha : a.length ≤ 1000000) (hb : b.length ≤ 1000000) {lo : Nat} {st : Bool} {h : Heap} : retCall E (L E) lo st 15 [strE.o ka a, strE.o kb b] h = some (.bool (decide (a = b)), h) := by
 have r1 : ∀ H, reify E.P 8 H (strE.o ka a) = some (strE.o ka a) := fun H => Enc.o_reify
 have r2 : ∀ H, reify E.P 8 H (strE.o kb b) = some (strE.o kb b) := fun H => Enc.o_reify
 have ht := texts_spec hka hkb ha hb
 simp -implicitDefEqProofs [ret0 m15, r1, r2, ht]
theorem proofs_call {ka kb : Option Bool} {R T : RowL} (hR : FlP ka R) (hT : FlP kb T) (hRl : R.length ≤ 1000000000000) {lo : Nat} {st : Bool} {h : Heap} : retCall E (L E) lo st 16 [rowE.o ka R, rowE.o kb T] h = some (.bool (decide (R.map (·.2) = T.map (·.2))), h) := by
 have r1 : ∀ H, reify E.P 8 H (rowE.o ka R) = some (rowE.o ka R) := fun H => Enc.o_reify
 have r2 : ∀ H, reify E.P 8 H (rowE.o kb T) = some (rowE.o kb T) := fun H => Enc.o_reify
 have ht := proofs_spec hR hT hRl
 simp -implicitDefEqProofs [ret0 m16, r1, r2, ht]
theorem al_some {A : List (Option Bool × List ByteArray)} (h : ∀ x ∈ A, x.1 = some true ∧ x.2.length ≤ 10) (hl : A.length ≤ 10) : AlOk (some true) A := ⟨Enc.ok_some, fun x hx => by rw [(h x hx).1]; exact Enc.ok_some, fun x hx => by have := (h x hx).2; omega, by omega⟩
theorem alA : AlOk (some true) exA := al_some (by simp [exA]) (by decide)
theorem alB : AlOk (some true) exB := al_some (by simp [exB]) (by decide)
theorem alC : AlOk (some true) exC := al_some (by simp [exC]) (by decide)
theorem alD : AlOk (some true) exD := al_some (by simp [exD]) (by decide)
theorem rows_some {R : RowL} (h : ∀ x ∈ R, (∃ y, x.1 = some y) ∧ x.2.length ≤ 10) (hl : R.length ≤ 10) {k : Bool} : FlP (some k) R := ⟨Enc.ok_some, fun x hx => ⟨by
 obtain ⟨y, hy⟩ := (h x hx).1
 rw [hy]; exact Enc.ok_some, by have := (h x hx).2; omega⟩, by omega⟩
theorem cO_A : coreO exA = (some false, [sB]) := by unfold coreO; rw [exA_e, exA_c]; rfl
theorem cO_B : coreO exB = (some false, [sA, sC]) := by unfold coreO; rw [exB_e, exB_c]; rfl
theorem cO_C : coreO exC = (some false, [sA, sB]) := by unfold coreO; rw [exC_e, exC_c]; rfl
theorem cO_D : coreO exD = (none, []) := by unfold coreO; rw [exD_e]; rfl
def exP : RowL := [(some false, [1, 0, 0, 1]), (some false, [0, 2]), (some false, [0, 1])]
theorem pO_C : proofO exC = (some false, exP) := by
 unfold proofO
 rw [exC_e, exC_c]
 show (if (0 : Int) = 0 then ((some false, prfL (proveF (als exC) 2 (allF (als exC)))) : Option Bool × RowL) else _) = _
 rw [exC_p]; rfl
set_option maxHeartbeats 4000000 in
theorem small_spec : pureCall E.P (L E) 8 [] = some (.bool true) := by
 have l1 : ∀ lo H, retCall E (L E) lo false 11 [listE.o (some true) [(some true, [⟨⟨[97]⟩⟩, ⟨⟨[98]⟩⟩]), (some true, [⟨⟨[98]⟩⟩, ⟨⟨[99]⟩⟩])]] H = some (.tuple #[strE.o (some false) [⟨⟨[98]⟩⟩], .int .i64 0], H) := fun lo H => by
  have := least_call alA (lo := lo) (h := H)
  rw [cO_A, exA_e] at this
  exact this
 have l2 : ∀ lo H, retCall E (L E) lo false 11 [listE.o (some true) [(some true, [⟨⟨[97]⟩⟩, ⟨⟨[98]⟩⟩]), (some true, [⟨⟨[99]⟩⟩])]] H = some (.tuple #[strE.o (some false) [⟨⟨[97]⟩⟩, ⟨⟨[99]⟩⟩], .int .i64 0], H) := fun lo H => by
  have := least_call alB (lo := lo) (h := H)
  rw [cO_B, exB_e] at this
  exact this
 have l3 : ∀ lo H, retCall E (L E) lo false 11 [listE.o (some true) [(some true, [⟨⟨[97]⟩⟩, ⟨⟨[98]⟩⟩]), (some true, [⟨⟨[97]⟩⟩, ⟨⟨[99]⟩⟩]), (some true, [⟨⟨[98]⟩⟩, ⟨⟨[99]⟩⟩])]] H = some (.tuple #[strE.o (some false) [⟨⟨[97]⟩⟩, ⟨⟨[98]⟩⟩], .int .i64 0], H) := fun lo H => by
  have := least_call alC (lo := lo) (h := H)
  rw [cO_C, exC_e] at this
  exact this
 have l4 : ∀ lo H, retCall E (L E) lo false 11 [listE.o (some true) [(some true, [⟨⟨[97]⟩⟩]), (some true, [])]] H = some (.tuple #[.slice none 0 0, .int .i64 4], H) := fun lo H => by
  have := least_call alD (lo := lo) (h := H)
  rw [cO_D, exD_e] at this
  exact this
 have p3 : ∀ lo st H, retCall E (L E) lo st 13 [listE.o (some true) [(some true, [⟨⟨[97]⟩⟩, ⟨⟨[98]⟩⟩]), (some true, [⟨⟨[97]⟩⟩, ⟨⟨[99]⟩⟩]), (some true, [⟨⟨[98]⟩⟩, ⟨⟨[99]⟩⟩])]] H = some (.tuple #[rowE.o (some false) exP, .int .i64 0], H) := fun lo st H => by
  have := prove_call alC (lo := lo) (st := st) (h := H)
  rw [pO_C, exC_e] at this
  exact this
 have fP : FlP (some false) exP := rows_some (by simp [exP]) (by decide)
 have ck : ∀ lo st H, retCall E (L E) lo st 19 [listE.o (some true) [(some true, [⟨⟨[97]⟩⟩, ⟨⟨[98]⟩⟩]), (some true, [⟨⟨[97]⟩⟩, ⟨⟨[99]⟩⟩]), (some true, [⟨⟨[98]⟩⟩, ⟨⟨[99]⟩⟩])], strE.o (some false) [⟨⟨[97]⟩⟩, ⟨⟨[98]⟩⟩], rowE.o (some false) exP] H = some (.int .i64 0, H) := fun lo st H => by
  have := check_call alC (kc := some false) (c := [sA, sB]) Enc.ok_some (by decide) fP (lo := lo) (st := st) (h := H)
  have e : checkV exC [sA, sB] (exP.map (·.2)) = 0 := exC_k
  rw [e] at this
  exact this
 have ck2 : ∀ lo st H, retCall E (L E) lo st 19 [listE.o (some true) [(some true, [⟨⟨[97]⟩⟩, ⟨⟨[98]⟩⟩]), (some true, [⟨⟨[97]⟩⟩, ⟨⟨[99]⟩⟩]), (some true, [⟨⟨[98]⟩⟩, ⟨⟨[99]⟩⟩])], strE.o (some false) [⟨⟨[97]⟩⟩, ⟨⟨[98]⟩⟩], lst (false && 2 == exP.length) (rowE.vals (exP.take 2))] H = some (.int .i64 19, H) := fun lo st H => by
  have := check_call alC (kc := some false) (c := [sA, sB]) Enc.ok_some (by decide) (kp := some false) (R := exP.take 2) (rows_some (by simp [exP]) (by decide)) (lo := lo) (st := st) (h := H)
  have e : checkV exC [sA, sB] ((exP.take 2).map (·.2)) = 19 := exC_k2
  rw [e] at this
  exact this
 have ht : ∀ lo st H, retCall E (L E) lo st 17 [listE.o (some true) [(some true, [⟨⟨[97]⟩⟩, ⟨⟨[98]⟩⟩]), (some true, [⟨⟨[97]⟩⟩, ⟨⟨[99]⟩⟩]), (some true, [⟨⟨[98]⟩⟩, ⟨⟨[99]⟩⟩])], strE.o (some false) [⟨⟨[97]⟩⟩, ⟨⟨[98]⟩⟩]] H = some (.bool true, H) := fun lo st H => by
  have := hits_call alC (kc := some false) (c := [sA, sB]) Enc.ok_some (by decide) (lo := lo) (st := st) (h := H)
  rw [exC_h] at this
  exact this
 have tx : ∀ lo st H (x : List ByteArray), x.length ≤ 5 → retCall E (L E) lo st 15 [strE.o (some false) x, strE.o (some true) x] H = some (.bool true, H) := fun lo st H x hx => by
  have := texts_call (ka := some false) (kb := some true) (a := x) (b := x) Enc.ok_some Enc.ok_some (by omega) (by omega) (lo := lo) (st := st) (h := H)
  rw [decide_eq_true rfl] at this
  exact this
 have t1 := fun lo st H => tx lo st H [⟨⟨[98]⟩⟩] (by decide)
 have t2 := fun lo st H => tx lo st H [⟨⟨[97]⟩⟩, ⟨⟨[99]⟩⟩] (by decide)
 have t3 := fun lo st H => tx lo st H [⟨⟨[97]⟩⟩, ⟨⟨[98]⟩⟩] (by decide)
 have sp : ∀ lo st H, retCall E (L E) lo st 16 [rowE.o (some false) exP, rowE.o (some true) [(some true, [1, 0, 0, 1]), (some true, [0, 2]), (some true, [0, 1])]] H = some (.bool true, H) := fun lo st H => by
  have := proofs_call (kb := some true) (T := [(some true, [1, 0, 0, 1]), (some true, [0, 2]), (some true, [0, 1])]) fP (rows_some (by simp) (by decide)) (by decide) (lo := lo) (st := st) (h := H)
  rw [show exP.map (·.2) = [(some true, [1, 0, 0, 1]), (some true, [0, 2]), ((some true, [0, 1]) : Option Bool × List Int)].map (·.2) from rfl, decide_eq_true rfl] at this
  exact this
 have lP : ∀ H, lenT .sl H (rowE.o (some false) exP) = some (.int .i64 3) := fun H => rfl
 have sl : ∀ H, sliceT (.sl 42 ⟨some false, some 1⟩) H (rowE.o (some false) exP) none (some (.int .i64 2)) none = some (lst (false && 2 == exP.length) (rowE.vals (exP.take 2))) := fun H => Enc.take_tree (O := rowE) (n := 2) (by decide)
 generalize lst (false && 2 == exP.length) (rowE.vals (exP.take 2)) = VQ at sl ck2
 have mn : aMinMax false [.int .i64 2, .int .i64 3] = some (.int .i64 2) := rfl
 rw [pureCall_fn F8 rfl]
 simp -implicitDefEqProofs [r8, p8, litS0, litS1, litS2, litI2, litI4, litL2, litL3, litR3, l1, l2, l3, l4, p3, t1, t2, t3, sp, ck, ck2, ht, lP, mn, sl]
end Go.Proofs.YtgefjhjmkejjbaaDoor.Bm
namespace Go.Proofs.YtgefjhjmkejjbaaDoor.Co
variable {S : Type} [DecidableEq S]
def memB (s : S) (l : List S) : Bool := decide (s ∈ l)
theorem memB_nil (s : S) : memB s [] = false := rfl
theorem memB_cons (s v : S) (l : List S) : memB s (v :: l) = (decide (v = s) || memB s l) := by
 unfold memB
 rw [Bool.eq_iff_iff]
 simp only [List.mem_cons, decide_eq_true_eq, Bool.or_eq_true]
 exact ⟨fun h => h.elim (fun e => .inl e.symm) .inr, fun h => h.elim (fun e => .inl e.symm) .inr⟩
theorem hitB_eq (a c : List S) : hitB a c = a.any fun s => memB s c := rfl
theorem hitsF_eq (l : List (List S)) (c : List S) : hitsF l c = l.all fun a => hitB a c := rfl
end Go.Proofs.YtgefjhjmkejjbaaDoor.Co
namespace Go.Proofs.YtgefjhjmkejjbaaDoor.Bm
open Go Go.RowKit
open Co (hitB hitsF memB ltB ascB)
set_option maxHeartbeats 2000000 in
theorem has_spec {K : Option Bool} {l : List ByteArray} {s : ByteArray} (hK : Enc.Ok K l) (hl : l.length ≤ 9223372036854775807) : pureCall E.P (L E) 42 [strE.o K l, .string s] = some (.bool (memB s l)) := by
 have lA : ∀ H, lenT .sl H (strE.o K l) = some (.int .i64 l.length) := fun H => Enc.o_len hK
 have iA : ∀ (i : Nat) (hi : i < l.length), indexAddrT (.sl 9 ⟨some false, some 1⟩) (strE.o K l) (.int .i64 (i : Int)) = some (cptr (.string l[i])) := fun i hi => Enc.index_o hK hi
 rw [pureCall_fn F42 rfl]
 generalize strE.o K l = VA at *
 simp -implicitDefEqProofs [r42, p42]
 rw [LL_for (γ := Unit) l () (fun i _ => [(5, .int .i64 i)]) (fun _ _ => []) (fun i rest _ => if memB s rest = true then (.ret, [(4, .bool true), (5, undef)], []) else (.exit 0, [(5, undef)], [])) (fun _ _ => True) hl trivial]
 ·cases q : memB s l
  ·simp -implicitDefEqProofs [k42_2]
  ·simp -implicitDefEqProofs [k42_2]
 ·simp -implicitDefEqProofs [k42_2]
 ·rfl
 ·intro nx i c hi _
  rw [Co.memB_nil]
  simp -implicitDefEqProofs [r42_2, k42_2, lA, hi, trim_le]
 ·intro nx i v rest c hi hv hd hw _ ih
  have ih := ih () trivial
  have hi2 : ((i : Int) < (l.length : Int)) := by omega
  have x1 := iA i hi
  rw [hv] at x1
  have e2 : (((i + 1 : Nat) : Int)) = (i : Int) + 1 := by omega
  rw [e2] at ih
  simp -implicitDefEqProofs [k42_2] at ih
  rw [Co.memB_cons]
  by_cases q : v = s
  ·subst q
   rw [decide_eq_true rfl, Bool.true_or]
   simp -implicitDefEqProofs [r42_2, k42_2, lA, hi2, x1, trim_le]
  ·rw [decide_eq_false q, Bool.false_or]
   simp -implicitDefEqProofs [r42_2, k42_2, lA, hi2, x1, q, hw, ih, trim_le]
theorem has_call {K : Option Bool} {l : List ByteArray} {s : ByteArray} (hK : Enc.Ok K l) (hl : l.length ≤ 9223372036854775807) {lo : Nat} {st : Bool} {h : Heap} : retCall E (L E) lo st 42 [strE.o K l, .string s] h = some (.bool (memB s l), h) := by
 have r1 : ∀ H, reify E.P 8 H (strE.o K l) = some (strE.o K l) := fun H => Enc.o_reify
 have := has_spec (s := s) hK hl
 simp -implicitDefEqProofs [ret0 m42, r1, this]
set_option maxHeartbeats 2000000 in
theorem hit_spec {K Kc : Option Bool} {l c : List ByteArray} (hK : Enc.Ok K l) (hl : l.length ≤ 9223372036854775807) (hKc : Enc.Ok Kc c) (hc : c.length ≤ 9223372036854775807) : pureCall E.P (L E) 34 [strE.o K l, strE.o Kc c] = some (.bool (hitB l c)) := by
 have lA : ∀ H, lenT .sl H (strE.o K l) = some (.int .i64 l.length) := fun H => Enc.o_len hK
 have iA : ∀ (i : Nat) (hi : i < l.length), indexAddrT (.sl 9 ⟨some false, some 1⟩) (strE.o K l) (.int .i64 (i : Int)) = some (cptr (.string l[i])) := fun i hi => Enc.index_o hK hi
 have hs := fun s lo st h => has_call (s := s) hKc hc (lo := lo) (st := st) (h := h)
 rw [pureCall_fn F34 rfl, Co.hitB_eq]
 generalize strE.o K l = VA at *
 generalize strE.o Kc c = VC at *
 simp -implicitDefEqProofs [r34, p34, -List.any_eq_true, -List.any_eq_false]
 rw [LL_for (γ := Unit) l () (fun i _ => [(5, .int .i64 i)]) (fun _ _ => []) (fun i rest _ => if (rest.any fun s => memB s c) = true then (.ret, [(4, .bool true), (5, undef)], []) else (.exit 0, [(5, undef)], [])) (fun _ _ => True) hl trivial]
 ·cases q : (l.any fun s => memB s c)
  ·simp -implicitDefEqProofs [k34_2]
  ·simp -implicitDefEqProofs [k34_2]
 ·simp -implicitDefEqProofs [k34_2]
 ·rfl
 ·intro nx i c hi _
  rw [List.any_nil]
  simp -implicitDefEqProofs [r34_2, k34_2, lA, hi, trim_le]
 ·intro nx i v rest c2 hi hv hd hw _ ih
  have ih := ih () trivial
  have hi2 : ((i : Int) < (l.length : Int)) := by omega
  have x1 := iA i hi
  rw [hv] at x1
  have e2 : (((i + 1 : Nat) : Int)) = (i : Int) + 1 := by omega
  rw [e2] at ih
  rw [List.any_cons]
  generalize (rest.any fun s => memB s c) = ra at *
  simp -implicitDefEqProofs [k34_2] at ih
  have hs := hs v
  cases q : memB v c
  ·rw [q] at hs
   rw [Bool.false_or]
   simp -implicitDefEqProofs [r34_2, k34_2, lA, hi2, x1, hs, hw, ih, trim_le]
  ·rw [q] at hs
   rw [Bool.true_or]
   simp -implicitDefEqProofs [r34_2, k34_2, lA, hi2, x1, hs, trim_le]
theorem hit_call {K Kc : Option Bool} {l c : List ByteArray} (hK : Enc.Ok K l) (hl : l.length ≤ 9223372036854775807) (hKc : Enc.Ok Kc c) (hc : c.length ≤ 9223372036854775807) {lo : Nat} {st : Bool} {h : Heap} : retCall E (L E) lo st 34 [strE.o K l, strE.o Kc c] h = some (.bool (hitB l c), h) := by
 have r1 : ∀ H, reify E.P 8 H (strE.o K l) = some (strE.o K l) := fun H => Enc.o_reify
 have r2 : ∀ H, reify E.P 8 H (strE.o Kc c) = some (strE.o Kc c) := fun H => Enc.o_reify
 have := hit_spec hK hl hKc hc
 simp -implicitDefEqProofs [ret0 m34, r1, r2, this]
set_option maxHeartbeats 2000000 in
theorem hitsR_spec {K Kc : Option Bool} {A : List (Option Bool × List ByteArray)} {c : List ByteArray} (hK : Enc.Ok K A) (hA : ∀ x ∈ A, Enc.Ok x.1 x.2) (hAl : A.length ≤ 9223372036854775807) (hsm : ∀ x ∈ A, x.2.length ≤ 9223372036854775807) (hKc : Enc.Ok Kc c) (hc : c.length ≤ 9223372036854775807) :
  pureCall E.P (L E) 18 [listE.o K A, strE.o Kc c] = some (.bool (hitsF (als A) c)) := by
 have lA : ∀ H, lenT .sl H (listE.o K A) = some (.int .i64 A.length) := fun H => Enc.o_len hK
 have iA : ∀ (i : Nat) (hi : i < A.length), indexAddrT (.sl 23 ⟨some false, some 1⟩) (listE.o K A) (.int .i64 (i : Int)) = some (cptr (listE.e A[i])) := fun i hi => Enc.index_o hK hi
 have hs := fun (x : Option Bool × List ByteArray) (hx : x ∈ A) lo st h => hit_call (hA x hx) (hsm x hx) hKc hc (lo := lo) (st := st) (h := h)
 have eH : hitsF (als A) c = A.all fun x => hitB x.2 c := by
  rw [Co.hitsF_eq]; unfold als; rw [List.all_map]; rfl
 rw [pureCall_fn F18 rfl, eH]
 generalize listE.o K A = VA at *
 generalize strE.o Kc c = VC at *
 simp -implicitDefEqProofs [r18, p18, -List.all_eq_true, -List.all_eq_false]
 rw [LL_for (γ := Unit) A () (fun i _ => [(5, .int .i64 i)]) (fun _ _ => []) (fun i rest _ => if (rest.all fun x => hitB x.2 c) = true then (.exit 0, [(5, undef)], []) else (.ret, [(4, .bool false), (5, undef)], [])) (fun _ _ => True) hAl trivial]
 ·cases q : (A.all fun x => hitB x.2 c)
  ·simp -implicitDefEqProofs [k18_2]
  ·simp -implicitDefEqProofs [k18_2]
 ·simp -implicitDefEqProofs [k18_2]
 ·rfl
 ·intro nx i c hi _
  rw [List.all_nil]
  simp -implicitDefEqProofs [r18_2, k18_2, lA, hi, trim_le]
 ·intro nx i v rest c2 hi hv hd hw _ ih
  have ih := ih () trivial
  have hi2 : ((i : Int) < (A.length : Int)) := by omega
  have x1 := iA i hi
  rw [hv] at x1
  have le1 : ∀ h sz, loadT ⟨some false, sz⟩ h (cptr (listE.e v)) = some (strE.o v.1 v.2) := fun h sz => Enc.load_e (O := listE) _
  have e2 : (((i + 1 : Nat) : Int)) = (i : Int) + 1 := by omega
  rw [e2] at ih
  rw [List.all_cons]
  have hs := hs v (by rw [← hv]; exact List.getElem_mem hi)
  generalize (rest.all fun x => hitB x.2 c) = ra at *
  generalize strE.o v.1 v.2 = VX at *
  generalize cptr (listE.e v) = PX at *
  simp -implicitDefEqProofs [k18_2] at ih
  cases q : hitB v.2 c
  ·rw [q] at hs
   rw [Bool.false_and]
   simp -implicitDefEqProofs [r18_2, k18_2, lA, hi2, x1, le1, hs, trim_le]
  ·rw [q] at hs
   rw [Bool.true_and]
   simp -implicitDefEqProofs [r18_2, k18_2, lA, hi2, x1, le1, hs, hw, ih, trim_le]
theorem ascR_spec (k : Option Bool) (l : List ByteArray) (hk : Enc.Ok k l) (hl : l.length ≤ 1000000) : pureCall E.P (L E) 38 [strE.o k l] = some (.bool (ascB ltB l)) := by
 have ll : ∀ h, lenT .sl h (strE.o k l) = some (.int .i64 l.length) := fun h => Enc.o_len hk
 have il : ∀ (i : Nat) (hi : i < l.length), indexAddrT (.sl 9 ⟨some false, some 1⟩) (strE.o k l) (.int .i64 (i : Int)) = some (cptr (.string l[i])) := fun i hi => Enc.index_o hk hi
 generalize strE.o k l = VL at *
 rw [pureCall_fn F38 rfl]
 simp -implicitDefEqProofs [r38, p38]
 rw [LL_for (γ := Unit) (l.drop 1) () (fun i _ => [(3, .int .i64 ((i : Int) + 1))]) (fun _ _ => []) (fun i rest _ => if ascB ltB (l.drop i) then (.exit 0, [(3, undef)], []) else (.ret, [(2, .bool false), (3, undef)], [])) (fun _ _ => True) (by rw [List.length_drop]; omega) trivial]
 ·by_cases q : ascB ltB l = true
  ·simp -implicitDefEqProofs [k38_2, q]
  ·simp -implicitDefEqProofs [k38_2, q]
 ·simp -implicitDefEqProofs [k38_2]
 ·rfl
 ·intro nx i c hi _
  rw [List.length_drop] at hi
  have h1 : ¬ ((i : Int) + 1 < l.length) := by omega
  have e : ascB ltB (l.drop i) = true := by
   have : (l.drop i).length ≤ 1 := by rw [List.length_drop]; omega
   match hd : l.drop i, this with
   | [], _ => rfl
   | [_], _ => rfl
   | _ :: _ :: _, h => simp at h
  simp -implicitDefEqProofs [r38_2, k38_2, ll, h1, e, trim_le]
 ·intro nx i v rest c hi hv hd hw _ ih
  have ih := ih () trivial
  rw [List.length_drop] at hi
  have h1 : ((i : Int) + 1 < l.length) := by omega
  have x1 := il i (by omega)
  have x2 := il (i + 1) (by omega)
  have w1 : IntKind.i64.wrap (i : Int) = (i : Int) := wrap64 (by omega) (by omega)
  have w2 : IntKind.i64.wrap ((i : Int) + 1 + 1) = (i : Int) + 1 + 1 := wrap64 (by omega) (by omega)
  have ec : (((i + 1 : Nat) : Int)) = (i : Int) + 1 := by omega
  rw [ec] at ih x2
  have e : ascB ltB (l.drop i) = (ltB l[i] l[i + 1] && ascB ltB (l.drop (i + 1))) := by
   rw [List.drop_eq_getElem_cons (show i < l.length by omega), List.drop_eq_getElem_cons (show i + 1 < l.length by omega)]
   rfl
  rw [e]
  simp -implicitDefEqProofs [k38_2] at ih
  generalize l[i] = a at *
  generalize l[i + 1] = b at *
  by_cases q : ltB a b = true
  ·simp -implicitDefEqProofs [r38_2, k38_2, ll, h1, x1, x2, w1, w2, q, bin_geq_str, trim_le, ih]
  ·simp -implicitDefEqProofs [r38_2, k38_2, ll, h1, x1, x2, w1, q, bin_geq_str, trim_le]
theorem ascR_call {k : Option Bool} {l : List ByteArray} (hk : Enc.Ok k l) (hl : l.length ≤ 1000000) {lo : Nat} {st : Bool} {h : Heap} : retCall E (L E) lo st 38 [strE.o k l] h = some (.bool (ascB ltB l), h) := by
 have r1 : ∀ H, reify E.P 8 H (strE.o k l) = some (strE.o k l) := fun H => Enc.o_reify
 have := ascR_spec k l hk hl
 simp -implicitDefEqProofs [ret0 m38, r1, this]
theorem errV_eq (A : List (Option Bool × List ByteArray)) : errV A = if A.length < 1 ∨ 8 < A.length then 1 else if (A.any fun x => decide (12 < x.2.length) || !ascB ltB x.2) = true then 1 else if (A.any fun x => decide (x.2.length = 0)) = true then 4 else 0 := by
 have e1 : ((als A).any fun a => decide (12 < a.length) || !ascB ltB a) = A.any fun x => decide (12 < x.2.length) || !ascB ltB x.2 := by unfold als; rw [List.any_map]; rfl
 have e2 : ((als A).any fun a => a.isEmpty) = A.any fun x => decide (x.2.length = 0) := by
  unfold als
  rw [List.any_map]
  congr 1
  funext x
  show x.2.isEmpty = decide (x.2.length = 0)
  cases x.2 <;> simp
 have e3 : (als A).length = A.length := List.length_map _
 unfold errV Co.errF Co.badA
 rw [e1, e2, e3]
 by_cases h1 : A.length < 1
 ·simp [h1]
 ·by_cases h2 : 8 < A.length
  ·simp [h2]
  ·rw [decide_eq_false h1, decide_eq_false h2, Bool.false_or, Bool.false_or, if_neg (show ¬ (A.length < 1 ∨ 8 < A.length) by omega)]
set_option maxHeartbeats 2000000 in
theorem may_spec {K : Option Bool} {A : List (Option Bool × List ByteArray)} (a : AlOk K A) : pureCall E.P (L E) 25 [listE.o K A] = some (.int .i64 (errV A)) := by
 have hl := a.len
 have lA : ∀ H, lenT .sl H (listE.o K A) = some (.int .i64 A.length) := fun H => Enc.o_len a.k
 have iA : ∀ (i : Nat) (hi : i < A.length), indexAddrT (.sl 23 ⟨some false, some 1⟩) (listE.o K A) (.int .i64 (i : Int)) = some (cptr (listE.e A[i])) := fun i hi => Enc.index_o a.k hi
 have as_ := fun (x : Option Bool × List ByteArray) (hx : x ∈ A) lo st h => ascR_call (a.row x hx) (a.sm x hx) (lo := lo) (st := st) (h := h)
 rw [pureCall_fn F25 rfl, errV_eq]
 generalize listE.o K A = VA at *
 by_cases h1 : A.length < 1
 ·have h1' : (A.length : Int) < 1 := by omega
  rw [if_pos (.inl h1)]
  simp -implicitDefEqProofs [r25, p25, lA, h1', -List.length_eq_zero_iff, -Int.natCast_eq_zero]
 have h1' : ¬ (A.length : Int) < 1 := by omega
 by_cases h2 : 8 < A.length
 ·have h2' : (8 : Int) < (A.length : Int) := by omega
  rw [if_pos (.inr h2)]
  simp -implicitDefEqProofs [r25, p25, lA, h1', h2']
 have h2' : ¬ (8 : Int) < (A.length : Int) := by omega
 rw [if_neg (show ¬ (A.length < 1 ∨ 8 < A.length) by omega)]
 obtain ⟨R, hR⟩ : ∃ R : Int, R = (if (A.any fun x => decide (12 < x.2.length) || !ascB ltB x.2) = true then 1 else if (A.any fun x => decide (x.2.length = 0)) = true then 4 else 0) := ⟨_, rfl⟩
 rw [← hR]
 simp -implicitDefEqProofs [r25, p25, lA, h1', h2', -List.any_eq_true, -List.any_eq_false]
 rw [LL_for (γ := Unit) A () (fun i _ => [(3, .int .i64 i)]) (fun _ _ => []) (fun i rest _ => if (rest.any fun x => decide (12 < x.2.length) || !ascB ltB x.2) = true then (.ret, [(2, .int .i64 1), (3, undef)], []) else (.exit 0, [(3, undef)], [])) (fun _ _ => True) (by omega) trivial]
 rotate_left
 ·simp -implicitDefEqProofs [k25_4]
 ·rfl
 ·intro nx i c hi _
  rw [List.any_nil]
  simp -implicitDefEqProofs [r25_4, k25_4, lA, hi, trim_le]
 ·intro nx i v rest c2 hi hv hd hw _ ih
  have ih := ih () trivial
  have hi2 : ((i : Int) < (A.length : Int)) := by omega
  have x1 := iA i hi
  rw [hv] at x1
  have hvA : v ∈ A := by rw [← hv]; exact List.getElem_mem hi
  have hvo := a.row v hvA
  have le1 : ∀ h sz, loadT ⟨some false, sz⟩ h (cptr (listE.e v)) = some (strE.o v.1 v.2) := fun h sz => Enc.load_e (O := listE) _
  have lv : ∀ H, lenT .sl H (strE.o v.1 v.2) = some (.int .i64 v.2.length) := fun H => Enc.o_len hvo
  have e2 : (((i + 1 : Nat) : Int)) = (i : Int) + 1 := by omega
  rw [e2] at ih
  rw [List.any_cons]
  have as_ := as_ v hvA
  generalize (rest.any fun x => decide (12 < x.2.length) || !ascB ltB x.2) = ra at *
  generalize strE.o v.1 v.2 = VX at *
  generalize cptr (listE.e v) = PX at *
  simp -implicitDefEqProofs [k25_4] at ih
  by_cases q : 12 < v.2.length
  ·have q' : (12 : Int) < (v.2.length : Int) := by omega
   rw [decide_eq_true q, Bool.true_or, Bool.true_or]
   simp -implicitDefEqProofs [r25_4, k25_4, lA, hi2, x1, le1, lv, q', trim_le]
  ·have q' : ¬ (12 : Int) < (v.2.length : Int) := by omega
   rw [decide_eq_false q, Bool.false_or]
   cases q2 : ascB ltB v.2
   ·rw [q2] at as_
    rw [Bool.not_false, Bool.true_or]
    simp -implicitDefEqProofs [r25_4, k25_4, lA, hi2, x1, le1, lv, q', as_, trim_le]
   ·rw [q2] at as_
    rw [Bool.not_true, Bool.false_or]
    simp -implicitDefEqProofs [r25_4, k25_4, lA, hi2, x1, le1, lv, q', as_, hw, ih, trim_le]
 cases qb : (A.any fun x => decide (12 < x.2.length) || !ascB ltB x.2)
 case true =>
  rw [qb, if_pos rfl] at hR
  simp -implicitDefEqProofs [k25_4, hR]
 rw [qb, if_neg (by decide)] at hR
 simp -implicitDefEqProofs [k25_4, -List.any_eq_true, -List.any_eq_false]
 rw [LL_for (γ := Unit) A () (fun i _ => [(4, .int .i64 i)]) (fun _ _ => []) (fun i rest _ => if (rest.any fun x => decide (x.2.length = 0)) = true then (.ret, [(2, .int .i64 4), (4, undef)], []) else (.exit 2, [(4, undef)], [])) (fun _ _ => True) (by omega) trivial]
 rotate_left
 ·simp -implicitDefEqProofs [k25_9]
 ·rfl
 ·intro nx i c hi _
  rw [List.any_nil]
  simp -implicitDefEqProofs [r25_9, k25_9, lA, hi, trim_le]
 ·intro nx i v rest c2 hi hv hd hw _ ih
  have ih := ih () trivial
  have hi2 : ((i : Int) < (A.length : Int)) := by omega
  have x1 := iA i hi
  rw [hv] at x1
  have hvo := a.row v (by rw [← hv]; exact List.getElem_mem hi)
  have le1 : ∀ h sz, loadT ⟨some false, sz⟩ h (cptr (listE.e v)) = some (strE.o v.1 v.2) := fun h sz => Enc.load_e (O := listE) _
  have lv : ∀ H, lenT .sl H (strE.o v.1 v.2) = some (.int .i64 v.2.length) := fun H => Enc.o_len hvo
  have e2 : (((i + 1 : Nat) : Int)) = (i : Int) + 1 := by omega
  rw [e2] at ih
  rw [List.any_cons]
  generalize (rest.any fun x => decide (x.2.length = 0)) = ra at *
  generalize strE.o v.1 v.2 = VX at *
  generalize cptr (listE.e v) = PX at *
  generalize v.2.length = n at *
  simp -implicitDefEqProofs [k25_9] at ih
  by_cases q : n = 0
  ·subst q
   rw [decide_eq_true rfl, Bool.true_or]
   simp -implicitDefEqProofs [r25_9, k25_9, lA, hi2, x1, le1, lv, trim_le]
  ·rw [decide_eq_false q, Bool.false_or]
   simp -implicitDefEqProofs [r25_9, k25_9, lA, hi2, x1, le1, lv, q, hw, ih, trim_le]
 cases qc : (A.any fun x => decide (x.2.length = 0))
 ·rw [qc, if_neg (by decide)] at hR
  simp -implicitDefEqProofs [k25_9, hR]
 ·rw [qc, if_pos rfl] at hR
  simp -implicitDefEqProofs [k25_9, hR]
end Go.Proofs.YtgefjhjmkejjbaaDoor.Bm
namespace Go.Proofs.YtgefjhjmkejjbaaDoor.Co
theorem mask_mem {S : Type} [DecidableEq S] (a : List S) (l : List (List S)) (s : S) : maskF (a :: l) s = (if memB s a = true then 1 else 0) + 2 * maskF l s := by
 show (if s ∈ a then 1 else 0) + 2 * maskF l s = _
 unfold memB
 by_cases h : s ∈ a
 ·rw [if_pos h, if_pos (decide_eq_true h)]
 ·rw [if_neg h, if_neg (by rw [decide_eq_false h]; decide)]
end Go.Proofs.YtgefjhjmkejjbaaDoor.Co
namespace Go.Proofs.YtgefjhjmkejjbaaDoor.Bm
open Go Go.RowKit
open Co (hitB hitsF memB ltB ascB apartR maskF)
set_option maxHeartbeats 2000000 in
theorem index_spec {K : Option Bool} {l : List Int} {s : Int} (hK : Enc.Ok K l) (hl : l.length ≤ 9223372036854775807) : pureCall E.P (L E) 57 [intE.o K l, .int .i64 s] = some (.bool (memB s l)) := by
 have lA : ∀ H, lenT .sl H (intE.o K l) = some (.int .i64 l.length) := fun H => Enc.o_len hK
 have iA : ∀ (i : Nat) (hi : i < l.length), indexAddrT (.sl 3 ⟨some false, some 1⟩) (intE.o K l) (.int .i64 (i : Int)) = some (cptr (.int .i64 l[i])) := fun i hi => Enc.index_o hK hi
 rw [pureCall_fn F57 rfl]
 generalize intE.o K l = VA at *
 simp -implicitDefEqProofs [r57, p57]
 rw [LL_for (γ := Unit) l () (fun i _ => [(5, .int .i64 i)]) (fun _ _ => []) (fun i rest _ => if memB s rest = true then (.ret, [(4, .bool true), (5, undef)], []) else (.exit 0, [(5, undef)], [])) (fun _ _ => True) hl trivial]
 ·cases q : memB s l
  ·simp -implicitDefEqProofs [k57_2]
  ·simp -implicitDefEqProofs [k57_2]
 ·simp -implicitDefEqProofs [k57_2]
 ·rfl
 ·intro nx i c hi _
  rw [Co.memB_nil]
  simp -implicitDefEqProofs [r57_2, k57_2, lA, hi, trim_le]
 ·intro nx i v rest c hi hv hd hw _ ih
  have ih := ih () trivial
  have hi2 : ((i : Int) < (l.length : Int)) := by omega
  have x1 := iA i hi
  rw [hv] at x1
  have e2 : (((i + 1 : Nat) : Int)) = (i : Int) + 1 := by omega
  rw [e2] at ih
  simp -implicitDefEqProofs [k57_2] at ih
  rw [Co.memB_cons]
  by_cases q : v = s
  ·subst q
   rw [decide_eq_true rfl, Bool.true_or]
   simp -implicitDefEqProofs [r57_2, k57_2, lA, hi2, x1, trim_le]
  ·rw [decide_eq_false q, Bool.false_or]
   simp -implicitDefEqProofs [r57_2, k57_2, lA, hi2, x1, q, hw, ih, trim_le]
theorem als_get (A : List (Option Bool × List ByteArray)) {i : Nat} (hi : i < A.length) : (als A).getD i [] = A[i].2 := by
 unfold als
 rw [List.getD_eq_getElem?_getD, List.getElem?_map, List.getElem?_eq_getElem hi]; rfl
set_option maxHeartbeats 2000000 in
theorem apart_specR {K Ko : Option Bool} {A : List (Option Bool × List ByteArray)} {o : List Nat} {i : Nat} (a : AlOk K A) (hKo : Enc.Ok Ko (castL o)) (hol : o.length ≤ 1000000) (hi : i < A.length) (ho : ∀ k ∈ o, k < A.length) :
  pureCall E.P (L E) 68 [listE.o K A, .int .i64 (i : Int), intE.o Ko (castL o)] = some (.bool (apartR (als A) i o)) := by
 have lO : ∀ H, lenT .sl H (intE.o Ko (castL o)) = some (.int .i64 o.length) := fun H => by rw [Enc.o_len hKo]; unfold castL; rw [List.length_map]
 have iO : ∀ (m : Nat) (hm : m < o.length), indexAddrT (.sl 3 ⟨some false, some 1⟩) (intE.o Ko (castL o)) (.int .i64 (m : Int)) = some (cptr (.int .i64 (o[m] : Int))) := fun m hm => by
  rw [Enc.index_o (O := intE) hKo (show m < (castL o).length by unfold castL; rw [List.length_map]; exact hm)]
  unfold castL
  rw [List.getElem_map]; rfl
 have iA : ∀ (i : Nat) (hi : i < A.length), indexAddrT (.sl 23 ⟨some false, some 1⟩) (listE.o K A) (.int .i64 (i : Int)) = some (cptr (listE.e A[i])) := fun i hi => Enc.index_o a.k hi
 have leE : ∀ (v : Option Bool × List ByteArray) H sz, loadT ⟨some false, sz⟩ H (cptr (listE.e v)) = some (strE.o v.1 v.2) := fun v H sz => Enc.load_e (O := listE) _
 have hai := List.getElem_mem hi
 have ht := fun (k : Nat) (hk : k < A.length) lo st h => hit_call (a.row _ hai) (by have := a.sm _ hai; omega) (a.row _ (List.getElem_mem hk)) (by have := a.sm _ (List.getElem_mem hk); omega) (lo := lo) (st := st) (h := h)
 have xi := iA i hi
 have li := leE A[i]
 have eR : apartR (als A) i o = o.all fun k => !hitB A[i].2 ((als A).getD k []) := by
  unfold Co.apartR
  rw [als_get A hi]
 rw [pureCall_fn F68 rfl, eR]
 generalize listE.o K A = VA at *
 generalize intE.o Ko (castL o) = VO at *
 obtain ⟨R, hR⟩ : ∃ R : Bool, R = o.all fun k => !hitB A[i].2 ((als A).getD k []) := ⟨_, rfl⟩
 rw [← hR]
 simp -implicitDefEqProofs [r68, p68, -List.all_eq_true, -List.all_eq_false]
 rw [LL_for (γ := Unit) o () (fun m _ => [(7, .int .i64 m)]) (fun _ _ => []) (fun m rest _ => if (rest.all fun k => !hitB A[i].2 ((als A).getD k [])) = true then (.exit 0, [(7, undef)], []) else (.ret, [(6, .bool false), (7, undef)], [])) (fun _ _ => True) (by omega) trivial]
 ·rw [← hR]
  cases R
  ·simp -implicitDefEqProofs [k68_2]
  ·simp -implicitDefEqProofs [k68_2]
 ·simp -implicitDefEqProofs [k68_2]
 ·rfl
 ·intro nx m c hm _
  rw [List.all_nil]
  simp -implicitDefEqProofs [r68_2, k68_2, lO, hm, trim_le]
 ·intro nx m v rest c hm hv hd hw _ ih
  have ih := ih () trivial
  have hm2 : ((m : Int) < (o.length : Int)) := by omega
  have hvA : v < A.length := ho v (by rw [← hv]; exact List.getElem_mem hm)
  have x1 := iO m hm
  rw [hv] at x1
  have x2 := iA v hvA
  have l2 := leE A[v]
  have ht := ht v hvA
  have e2 : (((m + 1 : Nat) : Int)) = (m : Int) + 1 := by omega
  rw [e2] at ih
  rw [List.all_cons, als_get A hvA]
  generalize (rest.all fun k => !hitB A[i].2 ((als A).getD k [])) = ra at *
  generalize strE.o A[v].1 A[v].2 = VX at *
  generalize cptr (listE.e A[v]) = PX at *
  generalize strE.o A[i].1 A[i].2 = VI at *
  generalize cptr (listE.e A[i]) = PI at *
  simp -implicitDefEqProofs [k68_2] at ih
  cases q : hitB A[i].2 A[v].2
  ·rw [q] at ht
   rw [Bool.not_false, Bool.true_and]
   simp -implicitDefEqProofs [r68_2, k68_2, lO, hm2, x1, x2, l2, xi, li, ht, hw, ih, trim_le]
  ·rw [q] at ht
   rw [Bool.not_true, Bool.false_and]
   simp -implicitDefEqProofs [r68_2, k68_2, lO, hm2, x1, x2, l2, xi, li, ht, trim_le]
theorem mask_cons (v : Option Bool × List ByteArray) (r : List (Option Bool × List ByteArray)) (s : ByteArray) : maskF (als (v :: r)) s = (if memB s v.2 = true then 1 else 0) + 2 * maskF (als r) s := Co.mask_mem v.2 (als r) s
set_option maxHeartbeats 2000000 in
theorem bits_spec {K : Option Bool} {A : List (Option Bool × List ByteArray)} {s : ByteArray} (a : AlOk K A) (h8 : A.length ≤ 8) : pureCall E.P (L E) 28 [listE.o K A, .string s] = some (.int .i64 (maskF (als A) s : Nat)) := by
 have lA : ∀ H, lenT .sl H (listE.o K A) = some (.int .i64 A.length) := fun H => Enc.o_len a.k
 have iA : ∀ (i : Nat) (hi : i < A.length), indexAddrT (.sl 23 ⟨some false, some 1⟩) (listE.o K A) (.int .i64 (i : Int)) = some (cptr (listE.e A[i])) := fun i hi => Enc.index_o a.k hi
 have hc := fun (x : Option Bool × List ByteArray) (hx : x ∈ A) lo st h => has_call (s := s) (a.row x hx) (by have := a.sm x hx; omega) (lo := lo) (st := st) (h := h)
 rw [pureCall_fn F28 rfl]
 generalize listE.o K A = VA at *
 simp -implicitDefEqProofs [r28, p28]
 rw [LL_for (γ := Nat) A 0 (fun i n => [(5, .int .i64 (n : Int)), (6, .int .i64 ((2 ^ i : Nat) : Int)), (7, .int .i64 i)]) (fun _ _ => []) (fun i rest n => (.exit 0, [(5, .int .i64 ((n + 2 ^ i * maskF (als rest) s : Nat) : Int)), (6, undef), (7, undef)], [])) (fun i n => n < 2 ^ i) (by omega) (by show 0 < 2 ^ 0; decide)]
 ·rw [Nat.zero_add, Nat.pow_zero, Nat.one_mul]
  simp -implicitDefEqProofs [k28_4, -Int.natCast_pow, -Int.natCast_mul, -Int.natCast_add]
 ·simp -implicitDefEqProofs [k28_4]
 ·rfl
 ·intro nx i n hi _
  subst hi
  have e0 : maskF (als []) s = 0 := rfl
  rw [e0, Nat.mul_zero, Nat.add_zero]
  simp -implicitDefEqProofs [r28_4, k28_4, lA, trim_le, -Int.natCast_pow]
 ·intro nx i v rest n hi hv hd hw hI ih
  have hi2 : ((i : Int) < (A.length : Int)) := by omega
  have x1 := iA i hi
  rw [hv] at x1
  have hvA : v ∈ A := by rw [← hv]; exact List.getElem_mem hi
  have le1 : ∀ h sz, loadT ⟨some false, sz⟩ h (cptr (listE.e v)) = some (strE.o v.1 v.2) := fun h sz => Enc.load_e (O := listE) _
  have hc := hc v hvA
  have hp : 2 ^ (i + 1) ≤ 2 ^ 8 := Nat.pow_le_pow_right (by omega) (by omega)
  rw [Nat.pow_succ] at hp
  have hI : n < 2 ^ i := hI
  have w2 : IntKind.i64.wrap (2 * ((2 ^ i : Nat) : Int)) = ((2 ^ (i + 1) : Nat) : Int) := (wrap64 (by omega) (by omega)).trans (by rw [Nat.pow_succ]; omega)
  have w1 : IntKind.i64.wrap ((n : Int) + ((2 ^ i : Nat) : Int)) = ((n + 2 ^ i : Nat) : Int) := (wrap64 (by omega) (by omega)).trans (by omega)
  have e2 : (((i + 1 : Nat) : Int)) = (i : Int) + 1 := by omega
  have em := mask_cons v rest s
  generalize strE.o v.1 v.2 = VX at *
  generalize cptr (listE.e v) = PX at *
  cases q : memB s v.2
  ·rw [q] at hc
   rw [q, if_neg (by decide), Nat.zero_add] at em
   have ih := ih n (by show n < 2 ^ (i + 1); rw [Nat.pow_succ]; omega)
   have er : n + 2 ^ (i + 1) * maskF (als rest) s = n + 2 ^ i * maskF (als (v :: rest)) s := by rw [em, Nat.pow_succ, Nat.mul_assoc]
   rw [er] at ih
   generalize n + 2 ^ i * maskF (als (v :: rest)) s = R at *
   generalize ((2 ^ (i + 1) : Nat) : Int) = p2 at *
   generalize ((2 ^ i : Nat) : Int) = p1 at *
   rw [e2] at ih
   simp -implicitDefEqProofs [k28_4] at ih
   simp -implicitDefEqProofs [r28_4, k28_4, lA, hi2, x1, le1, hc, w2, hw, trim_le, ih]
  ·rw [q] at hc
   rw [q, if_pos rfl] at em
   have ih := ih (n + 2 ^ i) (by show n + 2 ^ i < 2 ^ (i + 1); rw [Nat.pow_succ]; omega)
   have er : n + 2 ^ i + 2 ^ (i + 1) * maskF (als rest) s = n + 2 ^ i * maskF (als (v :: rest)) s := by rw [em, Nat.pow_succ, Nat.mul_add, Nat.mul_one, Nat.mul_assoc, Nat.add_assoc]
   rw [er] at ih
   generalize n + 2 ^ i * maskF (als (v :: rest)) s = R at *
   generalize ((n + 2 ^ i : Nat) : Int) = n2 at *
   generalize ((2 ^ (i + 1) : Nat) : Int) = p2 at *
   generalize ((2 ^ i : Nat) : Int) = p1 at *
   rw [e2] at ih
   simp -implicitDefEqProofs [k28_4] at ih
   simp -implicitDefEqProofs [r28_4, k28_4, lA, hi2, x1, le1, hc, w1, w2, hw, trim_le, ih]
end Go.Proofs.YtgefjhjmkejjbaaDoor.Bm
