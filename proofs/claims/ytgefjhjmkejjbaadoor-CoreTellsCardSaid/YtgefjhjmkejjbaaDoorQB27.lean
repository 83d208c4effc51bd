/-
 Chapter 27: the reference's packings, walked. Conditions: few alternatives.
-/
import Derived.Test.YtgefjhjmkejjbaaDoorQB25
import Derived.Test.YtgefjhjmkejjbaaDoorQB26
import Derived.Test.YtgefjhjmkejjbaaDoorQB23
namespace Go.Proofs.YtgefjhjmkejjbaaDoor.Co
theorem memB_iff {S : Type} [DecidableEq S] {s : S} {l : List S} : memB s l = true ↔ s ∈ l := by unfold memB; exact decide_eq_true_iff
end Go.Proofs.YtgefjhjmkejjbaaDoor.Co
namespace Go.Proofs.YtgefjhjmkejjbaaDoor.Bm
open Go Go.RowKit
open Co (memB ltB namesF insF AscL ordB)
def shF (x : List ByteArray) (s : ByteArray) : Nat → Nat
 | 0 => 0
 | k + 1 => if ltB s (x.getD k s) = true then shF x s k else k + 1
theorem shF_le (x : List ByteArray) (s : ByteArray) : ∀ k, shF x s k ≤ k
 | 0 => Nat.le_refl _
 | k + 1 => by
  unfold shF
  split
  ·exact Nat.le_succ_of_le (shF_le x s k)
  ·exact Nat.le_refl _
theorem shF_drop (x : List ByteArray) (s : ByteArray) : ∀ k, k ≤ x.length → (∀ a ∈ x.drop k, ltB s a = true) → ∀ a ∈ x.drop (shF x s k), ltB s a = true
 | 0, _, h => h
 | k + 1, hk, h => by
  unfold shF
  split
  ·rename_i q
   refine shF_drop x s k (by omega) ?_
   rw [List.drop_eq_getElem_cons (show k < x.length by omega)]
   intro a ha
   rcases List.mem_cons.1 ha with rfl | ha
   ·rw [List.getD_eq_getElem?_getD, List.getElem?_eq_getElem (show k < x.length by omega)] at q; exact q
   ·exact h a ha
  ·exact h
theorem shF_stop (x : List ByteArray) (s : ByteArray) : ∀ k, k ≤ x.length → ∀ h : shF x s k - 1 < x.length, 0 < shF x s k → ltB s x[shF x s k - 1] = false
 | 0, _, h, h0 => absurd h0 (Nat.lt_irrefl 0)
 | k + 1, hk, h, h0 => by
  by_cases q : ltB s (x.getD k s) = true
  ·have e : shF x s (k + 1) = shF x s k := by
    show (if ltB s (x.getD k s) = true then shF x s k else k + 1) = _
    rw [if_pos q]
   simp only [e] at h h0 ⊢
   exact shF_stop x s k (by omega) h h0
  ·have e : shF x s (k + 1) = k + 1 := by
    show (if ltB s (x.getD k s) = true then shF x s k else k + 1) = _
    rw [if_neg q]
   have e2 : shF x s (k + 1) - 1 = k := by omega
   simp only [e2]
   rw [List.getD_eq_getElem?_getD, List.getElem?_eq_getElem (show k < x.length by omega)] at q
   exact Bool.eq_false_iff.2 q
def lk (x : List ByteArray) (s : ByteArray) (k : Nat) : List ByteArray := x.take k ++ (x.getD k s) :: x.drop k
theorem lk_len {x : List ByteArray} {s : ByteArray} {k : Nat} (hk : k ≤ x.length) : (lk x s k).length = x.length + 1 := by
 unfold lk; simp; omega
theorem lk_top (x : List ByteArray) (s : ByteArray) : lk x s x.length = x ++ [s] := by
 unfold lk
 rw [List.take_length, List.drop_length, List.getD_eq_getElem?_getD, List.getElem?_eq_none (Nat.le_refl _)]; rfl
theorem lk_set {x : List ByteArray} {s : ByteArray} {k : Nat} (hk : k < x.length) : (lk x s (k + 1)).set (k + 1) (x[k]) = lk x s k := by
 unfold lk
 rw [List.set_append_right _ _ (by rw [List.length_take]; omega), List.length_take, show k + 1 - min (k + 1) x.length = 0 by omega, List.set_cons_zero, List.take_succ_eq_append_getElem hk, List.append_assoc, List.singleton_append,
  List.drop_eq_getElem_cons hk, List.getD_eq_getElem?_getD, List.getElem?_eq_getElem hk]; rfl
theorem lk_get {x : List ByteArray} {s : ByteArray} {k : Nat} (hk : k < x.length) (h : k < (lk x s (k + 1)).length) : (lk x s (k + 1))[k] = x[k] := by
 have e : (lk x s (k + 1))[k]? = some x[k] := by
  unfold lk
  rw [List.getElem?_append_left (by rw [List.length_take]; omega), List.getElem?_take_of_lt (by omega), List.getElem?_eq_getElem hk]
 rw [List.getElem?_eq_getElem h] at e
 exact Option.some.inj e
theorem lk_put {x : List ByteArray} {s : ByteArray} {k : Nat} (hk : k ≤ x.length) : (lk x s k).set k s = x.take k ++ s :: x.drop k := by
 unfold lk
 rw [List.set_append_right _ _ (by rw [List.length_take]; omega), List.length_take, show k - min k x.length = 0 by omega, List.set_cons_zero]
theorem ins_len {s : ByteArray} : ∀ l : List ByteArray, (insF ltB s l).length ≤ l.length + 1
 | [] => Nat.le_refl _
 | a :: l => by
  have := ins_len (s := s) l
  unfold Co.insF
  split
  ·rw [List.length_cons, List.length_cons]; omega
  ·split
   ·exact Nat.le_succ _
   ·exact Nat.le_refl _
theorem sl_len_eq {α : Type} {b : Nat} {l m : List α} (h : l.length = m.length) : Enc.sl b l = Enc.sl b m := by unfold Enc.sl; rw [h]
theorem at_len_eq {α : Type} {b i : Nat} {l m : List α} (h : l.length = m.length) : Enc.at_ b l i = Enc.at_ b m i := by unfold Enc.at_; rw [h]
set_option maxHeartbeats 4000000 in
theorem allR_spec {K : Option Bool} {A : List (Option Bool × List ByteArray)} (a : AlOk K A) (h8 : A.length ≤ 8) (h12 : ∀ x ∈ A, x.2.length ≤ 12) :
  pureCall E.P (L E) 26 [listE.o K A] = some (strE.o (some false) (namesF ltB (als A))) := by
 have lA : ∀ H, lenT .sl H (listE.o K A) = some (.int .i64 A.length) := fun H => Enc.o_len a.k
 have iA : ∀ (i : Nat) (hi : i < A.length), indexAddrT (.sl 23 ⟨some false, some 1⟩) (listE.o K A) (.int .i64 (i : Int)) = some (cptr (listE.e A[i])) := fun i hi => Enc.index_o a.k hi
 have leE : ∀ (v : Option Bool × List ByteArray) H sz, loadT ⟨some false, sz⟩ H (cptr (listE.e v)) = some (strE.o v.1 v.2) := fun v H sz => Enc.load_e (O := listE) _
 have hnew := fun (h : Heap) (σ : Slots) (s : Nat) => newK_nil (P := E.P) (t := 9) (h := h) (σ := σ) (s := s) (n := 0) sStr
 have rR : ∀ x, reifyR E.P [strE.row 9 x] (Enc.sl 0 x) = some (strE.o (some false) x) := fun x => Enc.reifyR_sl (O := strE) (t := 9) rfl sStr aStr
 have r8 : ∀ x, reify E.P 8 [strE.row 9 x] (Enc.sl 0 x) = some (strE.o (some false) x) := fun x => Enc.reify_sl (O := strE) (t := 9) rfl sStr aStr
 have eN : namesF ltB (als A) = A.foldl (fun out v => v.2.foldl (fun o s => insF ltB s o) out) [] := by
  unfold Co.namesF als
  rw [List.foldl_map]
 rw [pureCall_fn F26 rfl, eN]
 generalize listE.o K A = VA at *
 obtain ⟨R, hR⟩ : ∃ R, R = A.foldl (fun out v => v.2.foldl (fun o s => insF ltB s o) out) [] := ⟨_, rfl⟩
 rw [← hR]
 simp -implicitDefEqProofs [r26, p26, prep_new, hnew]
 rw [LL_for (γ := List ByteArray) A [] (fun i x => [(3, Enc.sl 0 x), (4, .int .i64 (i : Int))]) (fun _ x => [strE.row 9 x]) (fun i rest x => (.exit 0, [(3, Enc.sl 0 (rest.foldl (fun out v => v.2.foldl (fun o s => insF ltB s o) out) x)), (4, undef)], [strE.row 9 (rest.foldl (fun out v => v.2.foldl (fun o s => insF ltB s o) out) x)])) (fun i x => AscL ltB x ∧ x.length ≤ 12 * i) (by omega) ⟨List.Pairwise.nil, Nat.zero_le _⟩]
 ·rw [← hR]
  have rR := rR R
  generalize Enc.sl 0 R = VS at *
  simp -implicitDefEqProofs [k26_3, rR]
 ·simp -implicitDefEqProofs [k26_3]; rfl
 ·rfl
 ·intro nx i x hi _
  rw [List.foldl_nil]
  simp -implicitDefEqProofs [r26_3, k26_3, lA, hi, trim_le]
 ·intro nx i v rest x hi hv hd hw hI ih
  obtain ⟨hI1, hI2⟩ := hI
  have hi2 : ((i : Int) < (A.length : Int)) := by omega
  have x1 := iA i hi
  rw [hv] at x1
  have hvm : v ∈ A := by rw [← hv]; exact List.getElem_mem hi
  have le1 := leE v
  have hv12 := h12 v hvm
  have hvk := a.row v hvm
  have lV : ∀ H, lenT .sl H (strE.o v.1 v.2) = some (.int .i64 v.2.length) := fun H => Enc.o_len hvk
  have iV : ∀ (j : Nat) (hj : j < v.2.length), indexAddrT (.sl 9 ⟨some false, some 1⟩) (strE.o v.1 v.2) (.int .i64 (j : Int)) = some (cptr (.string v.2[j])) := fun j hj => Enc.index_o hvk hj
  have e2 : (((i + 1 : Nat) : Int)) = (i : Int) + 1 := by omega
  rw [List.foldl_cons]
  have asc : ∀ (r x : List ByteArray), AscL ltB x → AscL ltB (r.foldl (fun o s => insF ltB s o) x) := fun r x hx => (Co.fold_ins ordB r x hx).1
  have flen : (v.2.foldl (fun o s => insF ltB s o) x).length ≤ 12 * (i + 1) := by
   have := Co.fold_len (lt := ltB) v.2 x
   omega
  have ih := ih (v.2.foldl (fun o s => insF ltB s o) x) ⟨asc _ _ hI1, flen⟩
  generalize hrf : (rest.foldl (fun out v => v.2.foldl (fun o s => insF ltB s o) out) (v.2.foldl (fun o s => insF ltB s o) x)) = RF at *
  rw [e2] at ih
  obtain ⟨F, hF⟩ : ∃ F, F = v.2.foldl (fun o s => insF ltB s o) x := ⟨_, rfl⟩
  rw [← hF] at ih
  generalize strE.o v.1 v.2 = VX at *
  generalize cptr (listE.e v) = PX at *
  simp -implicitDefEqProofs [k26_3] at ih
  simp -implicitDefEqProofs [r26_3, k26_3, lA, hi2, trim_le]
  rw [LL_for (γ := List ByteArray) v.2 x (fun j x => [(3, Enc.sl 0 x), (5, .int .i64 (j : Int))]) (fun _ x => [strE.row 9 x]) (fun j rest x => (.exit 2, [(3, Enc.sl 0 (rest.foldl (fun o s => insF ltB s o) x)), (5, undef)], [strE.row 9 (rest.foldl (fun o s => insF ltB s o) x)])) (fun j x => AscL ltB x ∧ x.length ≤ 12 * i + j) (by omega) ⟨hI1, hI2⟩]
  ·rw [← hF]
   simp -implicitDefEqProofs [k26_6, hw, ih, trim_le]
  ·simp -implicitDefEqProofs [k26_6]
  ·rfl
  ·intro nx2 j y hj _
   rw [List.foldl_nil]
   simp -implicitDefEqProofs [r26_6, k26_6, x1, le1, lV, hj, trim_le]
  ·intro nx2 j s rest2 y hj hs hd2 hw2 hJ ih2
   obtain ⟨hJ1, hJ2⟩ := hJ
   have hj2 : ((j : Int) < (v.2.length : Int)) := by omega
   have z1 := iV j hj
   rw [hs] at z1
   have hc := has_spec (K := some false) (l := y) (s := s) Enc.ok_some (by omega)
   have e3 : (((j + 1 : Nat) : Int)) = (j : Int) + 1 := by omega
   rw [List.foldl_cons]
   have ih2 := ih2 (insF ltB s y) ⟨Co.ins_asc ordB hJ1, by have := ins_len (s := s) y; omega⟩
   rw [e3] at ih2
   by_cases q : s ∈ y
   ·rw [Co.ins_old ordB hJ1 q] at ih2 ⊢
    have qb : memB s y = true := Co.memB_iff.2 q
    rw [qb] at hc
    have r8 := r8 y
    generalize List.foldl (fun o s => insF ltB s o) y rest2 = Z at *
    generalize hVY : Enc.sl 0 y = VY at *
    simp -implicitDefEqProofs [k26_6] at ih2
    simp -implicitDefEqProofs [r26_6, k26_6, x1, le1, lV, hj2, z1, ret0 m42, r8, hc, hw2, ih2, trim_le]
   ·have qb : memB s y = false := Bool.eq_false_iff.2 fun h => q (Co.memB_iff.1 h)
    rw [qb] at hc
    have r8 := r8 y
    have ly : ∀ H, lenT .sl H (Enc.sl 0 y) = some (.int .i64 y.length) := fun H => Enc.sl_len
    have li1 : ∀ H, buildSliceT (some elStr) false H 1 #[(0, .string s)] = some (lst true (strE.vals [s]), H) := fun H => Enc.lit (O := strE) s rfl rfl rfl
    have ap : appendT (some elStr) [strE.row 9 y] 0 false (Enc.sl 0 y) (lst true (strE.vals [s])) = some (Enc.sl 0 (y ++ [s]), [strE.row 9 (y ++ [s])]) :=
     Enc.app (O := strE) (el := elStr) (lo := 0) (m := [s]) (h := [strE.row 9 y]) (b := 0) (t := 9) (l := y) rfl rfl (Enc.cells_tree (O := strE) (x := true)) (Nat.zero_le _) (by show (y.length + 1) * 16 ≤ _; omega)
    have ix : ∀ (k : Nat), k < y.length + 1 → indexAddrT (.sl 9 ⟨some false, some 1⟩) (Enc.sl 0 (y ++ [s])) (.int .i64 (k : Int)) = some (Enc.at_ 0 (y ++ [s]) k) := fun k hk => Enc.sl_index (by rw [List.length_append]; exact hk)
    have ld : ∀ (k : Nat) (hk : k < y.length) sz, loadT ⟨some false, sz⟩ [strE.row 9 (lk y s (k + 1))] (Enc.at_ 0 (y ++ [s]) k) = some (.string y[k]) := fun k hk sz => by
     have h1 := lk_len (s := s) (show k + 1 ≤ y.length by omega)
     rw [at_len_eq (m := lk y s (k + 1)) (by rw [h1, List.length_append]; rfl), Enc.load_at (O := strE) (t := 9) rfl (by rw [h1]; omega), lk_get hk]; rfl
    have st : ∀ (k : Nat) (hk : k ≤ y.length) (w : ByteArray) (k2 : Nat) (hk2 : k2 ≤ y.length), storeT (some 1) [strE.row 9 (lk y s k)] 0 (.string w) (Enc.at_ 0 (y ++ [s]) k2) = some [strE.row 9 ((lk y s k).set k2 w)] := fun k hk w k2 hk2 => by
     have h1 := lk_len (s := s) hk
     rw [at_len_eq (m := lk y s k) (by rw [h1, List.length_append]; rfl)]
     exact Enc.store_at (O := strE) (t := 9) rfl (Nat.le_refl _) (by rw [h1]; omega)
    have hsh := shF_le y s y.length
    have eI : (lk y s (shF y s y.length)).set (shF y s y.length) s = insF ltB s y := by
     rw [lk_put hsh, Co.ins_at ordB q hJ1 hsh (shF_drop y s y.length (Nat.le_refl _) (by rw [List.drop_length]; intro a ha; cases ha)) (shF_stop y s y.length (Nat.le_refl _))]
    have eS : Enc.sl 0 (y ++ [s]) = Enc.sl 0 (insF ltB s y) := sl_len_eq (by rw [← eI, List.length_set, lk_len hsh, List.length_append]; rfl)
    have ap2 : appendT (some elStr) [strE.row 9 y] 0 false (Enc.sl 0 y) (lst true (strE.vals [s])) = some (Enc.sl 0 (y ++ [s]), [strE.row 9 (lk y s y.length)]) := by rw [lk_top]; exact ap
    clear ap
    rw [← eS] at ih2
    have fin_st := st _ hsh s _ hsh
    rw [eI] at fin_st
    have ixs := ix _ (Nat.lt_succ_of_le hsh)
    simp -implicitDefEqProofs [k26_6] at ih2
    generalize Enc.sl 0 (y ++ [s]) = V3 at *
    generalize List.foldl (fun o s => insF ltB s o) (insF ltB s y) rest2 = Z at *
    generalize insF ltB s y = INS at *
    simp -implicitDefEqProofs [r26_6, k26_6, x1, le1, lV, hj2, z1, ret0 m42, r8, hc, ly, li1, ap2, trim_le]
    rw [LL_rec (α := Nat) y.length (fun k => [(6, .int .i64 (k : Int))]) (fun k => [strE.row 9 (lk y s k)]) (fun k => (.exit 4, [(6, .int .i64 ((shF y s k : Nat) : Int))], [strE.row 9 (lk y s (shF y s k))])) (fun k => k ≤ y.length) (fun k => k)]
    ·simp -implicitDefEqProofs [k26_11, x1, le1, z1, ixs, fin_st, hw2, ih2, trim_le]
    ·exact Nat.le_refl _
    ·simp -implicitDefEqProofs [k26_11]
    ·rfl
    ·intro nx3 k hk ih3
     cases k with
     | zero =>
      have e0 : shF y s 0 = 0 := rfl
      rw [e0]
      simp -implicitDefEqProofs [r26_11, k26_11, trim_le]
     | succ k =>
      have hk1 : k < y.length := by omega
      have w1 : IntKind.i64.wrap (((k + 1 : Nat) : Int) - 1) = (k : Int) := (wrap64 (by omega) (by omega)).trans (by omega)
      have i1 := ix k (by omega)
      have i2 := ix (k + 1) (by omega)
      have l1 := ld k hk1
      have s1 := st (k + 1) hk y[k] (k + 1) hk
      rw [lk_set hk1] at s1
      have ih3 := ih3 k (Nat.lt_succ_self k) (by omega)
      have gp : (0 : Int) < ((k + 1 : Nat) : Int) := by omega
      have es : shF y s (k + 1) = if ltB s y[k] = true then shF y s k else k + 1 := by
       show (if ltB s (y.getD k s) = true then shF y s k else k + 1) = _
       rw [List.getD_eq_getElem?_getD, List.getElem?_eq_getElem hk1]; rfl
      rw [es]
      generalize hk1 : ((k + 1 : Nat) : Int) = k1 at *
      have e9 : (k : Int) + 1 = k1 := by omega
      by_cases q3 : ltB s y[k] = true
      ·rw [if_pos q3]
       simp -implicitDefEqProofs [k26_11] at ih3
       simp -implicitDefEqProofs [r26_11, k26_11, gp, w1, x1, le1, z1, i1, i2, l1, s1, q3, bin_gtr_str, ih3, trim_le]
      ·rw [if_neg q3]
       simp -implicitDefEqProofs [r26_11, k26_11, gp, w1, x1, le1, z1, i1, l1, q3, bin_gtr_str, e9, trim_le]
theorem allR_call {K : Option Bool} {A : List (Option Bool × List ByteArray)} (a : AlOk K A) (h8 : A.length ≤ 8) (h12 : ∀ x ∈ A, x.2.length ≤ 12) {lo : Nat} {st : Bool} {h : Heap} :
  retCall E (L E) lo st 26 [listE.o K A] h = some (strE.o (some false) (namesF ltB (als A)), h) := by
 have := allR_spec a h8 h12
 rw [ret1s m26 (by
  rw [List.all_cons, List.all_nil, Bool.and_true]
  exact Enc.o_set), this]; rfl
end Go.Proofs.YtgefjhjmkejjbaaDoor.Bm
namespace Go.Proofs.YtgefjhjmkejjbaaDoor.Bm
open Go Go.RowKit
open Co (memB ltB namesF rem maskF needF)
theorem bin_remI {P : Program} {t : TypeId} {a b : Nat} (h : a < 2 ^ 62) (h2 : b < 2 ^ 62) : aBin P .andNot t (.int .i64 (a : Int)) (.int .i64 (b : Int)) = some (.int .i64 ((rem a b : Nat) : Int)) := by
 show some (Value.int .i64 (IntKind.i64.wrap ((BitVec.ofInt 64 (a : Int) &&& ~~~ BitVec.ofInt 64 (b : Int)).toNat : Nat))) = _
 have e : (BitVec.ofInt 64 (a : Int) &&& ~~~ BitVec.ofInt 64 (b : Int)).toNat = rem a b := by
  apply Nat.eq_of_testBit_eq
  intro i
  rw [BitVec.testBit_toNat, BitVec.getLsbD_and, BitVec.getLsbD_not, ofI, ofI, bit_of (show a < 2 ^ 64 by omega), bit_of (show b < 2 ^ 64 by omega), Co.rem_bit]
  cases q : a.testBit i
  ·rfl
  ·rw [decide_eq_true (bits_lt (show a < 2 ^ 64 by omega) q)]; simp
 have := Co.rem_le a b
 rw [e, wrap64 (by omega) (by omega)]
def fillQ (f : Nat → Int) (m size : Nat) : List Value := (List.range size).map fun s => .int .i64 (if s < m then f s else 0)
theorem fill_len {f : Nat → Int} {m size : Nat} : (fillQ f m size).length = size := by unfold fillQ; rw [List.length_map, List.length_range]
theorem fill_get {f : Nat → Int} {m size s : Nat} (h1 : s < m) (h2 : s < size) : (fillQ f m size)[s]? = some (.int .i64 (f s)) := by
 unfold fillQ
 rw [List.getElem?_map, List.getElem?_range h2]
 simp [h1]
theorem fill_set {f : Nat → Int} {m size : Nat} : (fillQ f m size).set m (.int .i64 (f m)) = fillQ f (m + 1) size := by
 refine List.ext_getElem? fun i => ?_
 unfold fillQ
 rw [List.getElem?_set, List.length_map, List.length_range, List.getElem?_map, List.getElem?_map]
 by_cases h : i < size
 ·rw [List.getElem?_range h]
  by_cases e : m = i
  ·subst e
   simp [h]
  ·rw [if_neg e]
   have : (i < m + 1) = (i < m) := by rw [eq_iff_iff]; omega
   simp only [Option.map_some, this]
 ·rw [List.getElem?_eq_none (by rw [List.length_range]; omega)]
  by_cases e : m = i
  ·subst e; simp [h]
  ·rw [if_neg e]; rfl
theorem fill_one {f : Nat → Int} {size : Nat} (h0 : f 0 = 0) : List.replicate size (Value.int .i64 0) = fillQ f 1 size := by
 refine List.ext_getElem? fun i => ?_
 unfold fillQ
 rw [List.getElem?_replicate, List.getElem?_map]
 by_cases h : i < size
 ·rw [List.getElem?_range h, if_pos h]
  by_cases e : i = 0
  ·subst e; simp [h0]
  ·have : ¬ i < 1 := by omega
   rw [Option.map_some, if_neg this]
 ·rw [List.getElem?_eq_none (by rw [List.length_range]; omega), if_neg h]; rfl
def rsl (size b : Nat) : Value := .slice (some ⟨b, 0, none⟩) size size
def oc (n size d : Nat) : List Value := (List.range (n + 1)).map fun j => if n + 1 ≤ j + d then rsl size (1 + (n - j)) else .slice none 0 0
theorem oc_len {n size d : Nat} : (oc n size d).length = n + 1 := by unfold oc; rw [List.length_map, List.length_range]
theorem oc_zero {n size : Nat} : List.replicate (n + 1) (Value.slice none 0 0) = oc n size 0 := by
 refine List.ext_getElem? fun i => ?_
 unfold oc
 rw [List.getElem?_replicate, List.getElem?_map]
 by_cases h : i < n + 1
 ·rw [List.getElem?_range h, if_pos h]
  have : ¬ n + 1 ≤ i + 0 := by omega
  simp only [Option.map_some, if_neg this]
 ·rw [List.getElem?_eq_none (by rw [List.length_range]; omega), if_neg h]; rfl
theorem oc_get {n size d j : Nat} (h1 : n + 1 ≤ j + d) (h2 : j < n + 1) : (oc n size d)[j]? = some (rsl size (1 + (n - j))) := by
 unfold oc
 rw [List.getElem?_map, List.getElem?_range h2]
 simp only [Option.map_some, if_pos h1]
theorem oc_set {n size d : Nat} (hd : d ≤ n) : (oc n size d).set (n - d) (rsl size (1 + d)) = oc n size (d + 1) := by
 refine List.ext_getElem? fun i => ?_
 unfold oc
 rw [List.getElem?_set, List.length_map, List.length_range, List.getElem?_map, List.getElem?_map]
 by_cases h : i < n + 1
 ·rw [List.getElem?_range h]
  by_cases e : n - d = i
  ·rw [if_pos e]
   have h1 : n + 1 ≤ i + (d + 1) := by omega
   have h2 : n - d < n + 1 := by omega
   have h3 : n - i = d := by omega
   simp only [Option.map_some, if_pos h1, if_pos h2, h3]
  ·rw [if_neg e]
   have : (n + 1 ≤ i + (d + 1)) = (n + 1 ≤ i + d) := by rw [eq_iff_iff]; omega
   simp only [Option.map_some, this]
 ·rw [List.getElem?_eq_none (by rw [List.length_range]; omega)]
  rw [if_neg (by omega)]; rfl
def tbRows (n size : Nat) (f : Nat → Nat → Int) (d : Nat) : Heap := (List.range d).map fun t => .cells 3 (fillQ (f (n - t)) size size) 0
theorem tb_len {n size d : Nat} {f : Nat → Nat → Int} : (tbRows n size f d).length = d := by unfold tbRows; rw [List.length_map, List.length_range]
theorem tb_get {n size d t : Nat} {f : Nat → Nat → Int} (h : t < d) : (tbRows n size f d)[t]? = some (.cells 3 (fillQ (f (n - t)) size size) 0) := by
 unfold tbRows
 rw [List.getElem?_map, List.getElem?_range h]; rfl
theorem tb_succ {n size d : Nat} {f : Nat → Nat → Int} : tbRows n size f (d + 1) = tbRows n size f d ++ [.cells 3 (fillQ (f (n - d)) size size) 0] := by
 unfold tbRows
 rw [List.range_succ, List.map_append]; rfl
def tbH (n size : Nat) (f : Nat → Nat → Int) (d : Nat) : Heap := .cells 42 (oc n size d) 0 :: tbRows n size f d
def tbO (n size : Nat) (f : Nat → Nat → Int) : RowL := (List.range (n + 1)).map fun i => (some false, (List.range size).map (f i))
theorem reify_row1 {n size : Nat} {f : Nat → Nat → Int} (h0 : 0 < size) {m j : Nat} (hj : j < n + 1) : reify E.P (m + 1) (tbH n size f (n + 1)) (rsl size (1 + (n - j))) = some (rowE.e (some false, (List.range size).map (f j))) := by
 have hg : (tbH n size f (n + 1))[1 + (n - j)]? = some (.cells 3 (fillQ (f j) size size) 0) := by
  unfold tbH
  rw [show 1 + (n - j) = (n - j) + 1 from Nat.add_comm _ _, List.getElem?_cons_succ, tb_get (by omega), show n - (n - j) = j by omega]
 unfold rsl
 rw [reify_slice, if_neg (by omega)]
 show reifyS E.P m _ (tbH n size f (n + 1))[1 + (n - j)]? _ _ = _
 rw [hg, reifyS_cells, sInt, Option.bind_some, if_pos ⟨rfl, Nat.one_pos, by rw [fill_len]; simp⟩]
 have e : fillQ (f j) size size = ((List.range size).map (f j)).map (Value.int .i64) := by
  unfold fillQ
  rw [List.map_map]
  refine List.map_congr_left fun s hs => ?_
  have := List.mem_range.1 hs
  simp [this]
 rw [List.drop_zero, List.take_of_length_le (by rw [fill_len]; omega), e, reifyC_set (by simp [List.all_eq_true]), Option.bind_some, elems_one aInt sInt]; rfl
theorem sInts : szOf E.P 42 = some 1 := by kernel_rfl
theorem aInts : aggT E.P 42 = some false := by kernel_rfl
theorem reify_tab {n size : Nat} {f : Nat → Nat → Int} (h0 : 0 < size) : reifyR E.P (tbH n size f (n + 1)) (.slice (some ⟨0, 0, none⟩) (n + 1) (n + 1)) = some (rowE.o (some false) (tbO n size f)) := by
 rw [reifyR_slice, reify_slice, if_neg (by omega)]
 show reifyS E.P 7 _ (some (.cells 42 (oc n size (n + 1)) 0)) _ _ = _
 rw [reifyS_cells, sInts, Option.bind_some, if_pos ⟨rfl, Nat.one_pos, by rw [oc_len]; simp⟩, List.drop_zero, List.take_of_length_le (by rw [oc_len]; omega)]
 have hns : (oc n size (n + 1)).all (settled 8) = false := by
  rw [List.all_eq_false]
  refine ⟨rsl size (1 + (n - 0)), List.mem_of_getElem? (oc_get (by omega) (by omega) : (oc n size (n + 1))[0]? = _), ?_⟩
  show ¬ settled 8 (Value.slice (some _) _ _) = true
  rw [set_slice]; decide
 have key : ∀ (l : List Nat), (∀ j ∈ l, j < n + 1) → mapR E.P 7 (tbH n size f (n + 1)) (l.map fun j => if n + 1 ≤ j + (n + 1) then rsl size (1 + (n - j)) else .slice none 0 0) = some (l.map fun j => rowE.e (some false, (List.range size).map (f j))) := by
  intro l
  induction l with
  | nil => intro _; rfl
  | cons j l ih =>
   intro h
   rw [List.map_cons, mapR_cons, if_pos (by omega), reify_row1 h0 (h j List.mem_cons_self), Option.bind_some, ih fun i hi => h i (List.mem_cons_of_mem _ hi)]; rfl
 rw [reifyC_map hns]
 unfold oc
 rw [key _ fun j hj => List.mem_range.1 hj, Option.bind_some, elems_one aInts sInts]
 show some (lst false _) = some (lst false ((tbO n size f).map rowE.e))
 unfold tbO
 rw [List.map_map]; rfl
abbrev elIntM : El := ⟨3, 1, 8, .int .i64 0, ⟨some false, some 1⟩⟩
abbrev elRowM : El := ⟨42, 1, 24, .slice none 0 0, ⟨some false, some 1⟩⟩
def needI (ls : List (List ByteArray)) (ns : List ByteArray) (i s : Nat) : Int := ((needF 99 ((prs ls ns).drop i) s : Nat) : Int)
theorem needI_zero {ls : List (List ByteArray)} {ns : List ByteArray} {i : Nat} : needI ls ns i 0 = 0 := by unfold needI; rw [Co.need_zero]; rfl
theorem needI_top {ls : List (List ByteArray)} {ns : List ByteArray} {s : Nat} (h : s ≠ 0) : needI ls ns ns.length s = 99 := by
 unfold needI
 rw [List.drop_eq_nil_of_le (by unfold prs; rw [List.length_map]; omega), Co.need_nil h]; rfl
theorem needI_row {ls : List (List ByteArray)} {ns : List ByteArray} {i s : Nat} (hi : i < ns.length) (h : s ≠ 0) : needI ls ns i s = min (needI ls ns (i + 1) s) (1 + needI ls ns (i + 1) (rem s (maskF ls ns[i]))) := by
 unfold needI
 have e : (prs ls ns).drop i = (ns[i], maskF ls ns[i]) :: (prs ls ns).drop (i + 1) := by
  have hi' : i < (prs ls ns).length := by unfold prs; rw [List.length_map]; exact hi
  rw [List.drop_eq_getElem_cons hi']
  simp only [prs, List.getElem_map]
 rw [e, Co.need_row _ _ h]
 dsimp only
 omega
theorem mask_256 {A : List (Option Bool × List ByteArray)} (h8 : A.length ≤ 8) (s : ByteArray) : maskF (als A) s < 2 ^ 8 := Nat.lt_pow_two_of_testBit _ fun i hi => by
 cases q : (maskF (als A) s).testBit i
 ·rfl
 ·have := Co.mask_lt (als A) s q
  rw [show (als A).length = A.length from List.length_map _] at this
  omega
theorem rix {b n i : Nat} {t : TypeId} {g : Option Bool} {k : IntKind} (hi : i < n) : indexAddrT (.sl t ⟨g, some 1⟩) (.slice (some ⟨b, 0, none⟩) n n) (.int k (i : Int)) = some (cAt b i) := by
 rw [index_slice, if_pos ⟨by omega, by omega⟩]
 show some (Value.pointer (some ⟨b, 0 + (i : Int).toNat * 1, none⟩)) = _
 rw [Int.toNat_natCast, Nat.mul_one, Nat.zero_add]; rfl
def tbX (n size : Nat) (f : Nat → Nat → Int) (d : Nat) (c : List Value) : Heap := .cells 42 (oc n size (d + 1)) 0 :: (tbRows n size f d ++ [.cells 3 c 0])
theorem tbX_len {n size d : Nat} {f : Nat → Nat → Int} {c : List Value} : (tbX n size f d c).length = d + 2 := by
 unfold tbX
 rw [List.length_cons, List.length_append, tb_len]; rfl
theorem tbX_at {n size d : Nat} {f : Nat → Nat → Int} {c : List Value} : (tbX n size f d c)[1 + d]? = some (.cells 3 c 0) := by
 unfold tbX
 rw [show 1 + d = d + 1 from Nat.add_comm _ _, List.getElem?_cons_succ, List.getElem?_append_right (by rw [tb_len]; omega), tb_len, Nat.sub_self]; rfl
theorem tbX_set {n size d : Nat} {f : Nat → Nat → Int} {c c2 : List Value} : (tbX n size f d c).set (1 + d) (.cells 3 c2 0) = tbX n size f d c2 := by
 unfold tbX
 rw [show 1 + d = d + 1 from Nat.add_comm _ _, List.set_cons_succ, List.set_append_right _ _ (by rw [tb_len]; omega), tb_len, Nat.sub_self]; rfl
theorem tbX_low {n size d : Nat} {f : Nat → Nat → Int} {c : List Value} (h : 0 < d) : (tbX n size f d c)[d]? = some (.cells 3 (fillQ (f (n - (d - 1))) size size) 0) := by
 obtain ⟨d, rfl⟩ : ∃ e, d = e + 1 := ⟨d - 1, by omega⟩
 unfold tbX
 rw [List.getElem?_cons_succ, List.getElem?_append_left (by rw [tb_len]; omega), tb_get (by omega)]; rfl
theorem tbX_full {n size d : Nat} {f : Nat → Nat → Int} : tbX n size f d (fillQ (f (n - d)) size size) = tbH n size f (d + 1) := by
 unfold tbX tbH
 rw [tb_succ]
theorem tbH_len {n size d : Nat} {f : Nat → Nat → Int} : (tbH n size f d).length = d + 1 := by
 unfold tbH
 rw [List.length_cons, tb_len]
theorem tbH_new {n size d : Nat} {f : Nat → Nat → Int} {c : List Value} (hd : d ≤ n) : (tbH n size f d ++ [AObj.cells 3 c 0]).set 0 (AObj.cells 42 ((oc n size d).set (n - d) (rsl size (1 + d))) 0) = tbX n size f d c := by
 rw [oc_set hd]; rfl
theorem tbH_trim {n size d : Nat} {f : Nat → Nat → Int} {vs : List Value} (hd : d ≤ n) : trim (d + 1) vs (tbH n size f (d + 1)) = tbH n size f (d + 1) := by
 have hb : ((tbH n size f (d + 1)).take (d + 1)).all (belowO (d + 1)) = false := by
  rw [List.all_eq_false]
  refine ⟨.cells 42 (oc n size (d + 1)) 0, by unfold tbH; rw [List.take_succ_cons]; exact List.mem_cons_self, ?_⟩
  rw [belO_cells, Bool.not_eq_true, List.all_eq_false]
  refine ⟨rsl size (1 + (n - (n - d))), List.mem_of_getElem? (oc_get (by omega) (by omega) : (oc n size (d + 1))[n - d]? = _), ?_⟩
  show ¬ decide (1 + (n - (n - d)) < d + 1) = true
  rw [decide_eq_true_eq]
  omega
 unfold Bm.trim
 rw [hb]
 split
 ·rfl
 ·rw [Bool.and_false, if_neg (by decide)]
set_option maxHeartbeats 4000000 in
theorem table_spec {K Kn : Option Bool} {A : List (Option Bool × List ByteArray)} {ns : List ByteArray} (a : AlOk K A) (h8 : A.length ≤ 8) (hk : Enc.Ok Kn ns) (hn : ns.length ≤ 1000) :
  pureCall E.P (L E) 27 [listE.o K A, strE.o Kn ns] = some (rowE.o (some false) (tbO ns.length (2 ^ A.length) (needI (als A) ns))) := by
 have lA : ∀ H, lenT .sl H (listE.o K A) = some (.int .i64 A.length) := fun H => Enc.o_len a.k
 have lN : ∀ H, lenT .sl H (strE.o Kn ns) = some (.int .i64 ns.length) := fun H => Enc.o_len hk
 have iN : ∀ (i : Nat) (hi : i < ns.length), indexAddrT (.sl 9 ⟨some false, some 1⟩) (strE.o Kn ns) (.int .i64 (i : Int)) = some (cptr (.string ns[i])) := fun i hi => Enc.index_o hk hi
 have bc := fun s lo st h => bits_call (s := s) a h8 (lo := lo) (st := st) (h := h)
 have hp8 : 2 ^ A.length ≤ 256 := Nat.le_trans (Nat.pow_le_pow_right (by omega) h8) (by decide)
 have hp0 : 0 < 2 ^ A.length := Nat.pow_pos (by omega)
 have hms : ∀ s, maskF (als A) s < 2 ^ 8 := fun s => mask_256 h8 s
 rw [pureCall_fn F27 rfl]
 generalize listE.o K A = VA at *
 generalize strE.o Kn ns = VN at *
 generalize als A = AL at *
 simp -implicitDefEqProofs [r27, p27]
 rw [LL_for (γ := Unit) A () (fun i _ => [(5, .int .i64 ((2 ^ i : Nat) : Int)), (6, .int .i64 (i : Int))]) (fun _ _ => []) (fun i rest _ => (.exit 0, [(5, .int .i64 ((2 ^ A.length : Nat) : Int)), (6, undef)], [])) (fun _ _ => True) (by omega) trivial]
 ·generalize hsz : 2 ^ A.length = size at *
  have hI : ∀ n : Nat, n < 2 ^ 62 → n = n := fun _ _ => rfl
  have w0 : IntKind.i64.wrap ((ns.length : Int) + 1) = ((ns.length + 1 : Nat) : Int) := (wrap64 (by omega) (by omega)).trans (by omega)
  have mk0 := make_one (h := []) (el := elRowM) (n := ns.length + 1) (k := .i64) (k' := .i64) rfl rfl (by omega) (by decide)
  rw [show elRowM.z = Value.slice none 0 0 from rfl, oc_zero (size := size)] at mk0
  have rt := reify_tab (n := ns.length) (f := needI AL ns) hp0
  generalize hT : rowE.o (some false) (tbO ns.length size (needI AL ns)) = T at *
  have eH0 : tbH ns.length size (needI AL ns) 0 = [] ++ [AObj.cells elRowM.e (oc ns.length size 0) 0] := rfl
  rw [← eH0] at mk0
  generalize hf : needI AL ns = f at *
  simp -implicitDefEqProofs only [List.length_nil] at mk0
  simp -implicitDefEqProofs [k27_3, lN, w0, mk0, -Int.natCast_add]
  rw [LL_rec (α := Nat) 0 (fun d => [(8, .int .i64 ((ns.length : Int) - (d : Int)))]) (fun d => tbH ns.length size f d) (fun _ => (.exit 2, [(8, undef)], tbH ns.length size f (ns.length + 1))) (fun d => d ≤ ns.length + 1) (fun d => ns.length + 1 - d)]
  ·simp -implicitDefEqProofs [k27_8, rt]
  ·exact Nat.zero_le _
  ·simp -implicitDefEqProofs [k27_8]
  ·rfl
  ·intro nx d hd ih
   have lN := lN
   by_cases hdn : d = ns.length + 1
   ·subst hdn
    have g0 : ¬ ((0 : Int) ≤ (ns.length : Int) - ((ns.length + 1 : Nat) : Int)) := by omega
    generalize (ns.length : Int) - ((ns.length + 1 : Nat) : Int) = iz at *
    simp -implicitDefEqProofs [r27_8, k27_8, g0, trim_le, -Int.natCast_add]
   have hdl : d ≤ ns.length := by omega
   have ei : (ns.length : Int) - (d : Int) = ((ns.length - d : Nat) : Int) := by omega
   have e1 : ((ns.length - d : Nat) : Int) - 1 = (ns.length : Int) - ((d + 1 : Nat) : Int) := by omega
   have w1 : IntKind.i64.wrap (((ns.length - d : Nat) : Int) - 1) = (ns.length : Int) - ((d + 1 : Nat) : Int) := (wrap64 (by omega) (by omega)).trans e1
   have ih := ih (d + 1) (by omega) (by omega)
   have mk := make_one (h := tbH ns.length size f d) (el := elIntM) (n := size) (k := .i64) (k' := .i64) rfl rfl (by omega) (by decide)
   have hf0 : f (ns.length - d) 0 = 0 := by rw [← hf]; exact needI_zero
   rw [show elIntM.z = Value.int .i64 0 from rfl, fill_one (f := f (ns.length - d)) hf0, tbH_len, show elIntM.e = 3 from rfl] at mk
   have ix0 : ∀ (j : Nat), j < ns.length + 1 → ∀ t g k, indexAddrT (.sl t ⟨g, some 1⟩) (.slice (some ⟨0, 0, none⟩) (ns.length + 1) (ns.length + 1)) (.int k (j : Int)) = some (cAt 0 j) := fun j hj t g k => rix hj
   have ixr : ∀ (b j : Nat), j < size → ∀ t g k, indexAddrT (.sl t ⟨g, some 1⟩) (rsl size b) (.int k (j : Int)) = some (cAt b j) := fun b j hj t g k => rix hj
   have l0 : ∀ (c : List Value) (j : Nat), ns.length + 1 ≤ j + (d + 1) → j < ns.length + 1 → ∀ sz, loadT ⟨some false, sz⟩ (tbX ns.length size f d c) (cAt 0 j) = some (rsl size (1 + (ns.length - j))) := fun c j h1 h2 sz => obj_load (t := 42) (c := oc ns.length size (d + 1)) rfl (oc_get h1 h2)
   have st0 : storeT (some 1) (tbH ns.length size f d ++ [.cells 3 (fillQ (f (ns.length - d)) 1 size) 0]) 0 (rsl size (1 + d)) (cAt 0 (ns.length - d)) = some (tbX ns.length size f d (fillQ (f (ns.length - d)) 1 size)) := by
    have := obj_store (h := tbH ns.length size f d ++ [.cells 3 (fillQ (f (ns.length - d)) 1 size) 0]) (b := 0) (j := ns.length - d) (lo := 0) (t := 42) (c := oc ns.length size d) (v := rsl size (1 + d)) rfl (by rw [oc_len]; omega) (Nat.le_refl _) rfl
    rw [this, tbH_new hdl]
   have stm : ∀ (c : List Value) (m : Nat) (v : Int), c.length = size → m < size → storeT (some 1) (tbX ns.length size f d c) 0 (.int .i64 v) (cAt (1 + d) m) = some (tbX ns.length size f d (c.set m (.int .i64 v))) := fun c m v hc hm => by
    have := obj_store (h := tbX ns.length size f d c) (b := 1 + d) (j := m) (lo := 0) (t := 3) (c := c) (v := .int .i64 v) tbX_at (by omega) (by omega) rfl
    rw [this, tbX_set]
   have hr1 : rsl size (d + 1) = rsl size (1 + d) := by rw [Nat.add_comm]
   have mk2 : makeSliceT (some elIntM) (tbH ns.length size f d) (.int .i64 (size : Int)) (.int .i64 (size : Int)) = some (rsl size (1 + d), tbH ns.length size f d ++ [.cells 3 (fillQ (f (ns.length - d)) 1 size) 0]) := by rw [← hr1]; exact mk
   have ii := ix0 (ns.length - d) (by omega)
   have tln : ∀ c, (tbX ns.length size f d c).length = d + 2 := fun c => tbX_len
   have thl : (tbH ns.length size f d).length = d + 1 := tbH_len
   have tht := fun vs => tbH_trim (n := ns.length) (size := size) (f := f) (vs := vs) hdl
   rw [ei]
   generalize (ns.length : Int) - ((d + 1 : Nat) : Int) = z1 at *
   simp -implicitDefEqProofs [k27_8] at ih
   have g0 : (0 : Int) ≤ ((ns.length - d : Nat) : Int) := by omega
   obtain ⟨iz, hiz⟩ : ∃ iz : Int, iz = ((ns.length - d : Nat) : Int) := ⟨_, rfl⟩
   rw [← hiz] at ii w1 g0 ⊢
   simp -implicitDefEqProofs [r27_8, k27_8, g0, mk2, ii, st0, trim_le]
   have hsize2 : size ≤ 256 := by omega
   rw [LL_rec (α := Nat) 1 (fun m => [(9, .int .i64 (m : Int))]) (fun m => tbX ns.length size f d (fillQ (f (ns.length - d)) m size)) (fun _ => (.exit 4, [(9, undef)], tbH ns.length size f (d + 1))) (fun m => 1 ≤ m ∧ m ≤ size) (fun m => size - m)]
   ·simp -implicitDefEqProofs [k27_12, w1, ih, trim_le, thl, tht]
   ·exact ⟨Nat.le_refl _, hp0⟩
   ·simp -implicitDefEqProofs [k27_12]
   ·rfl
   ·intro nx2 m hm ih2
    obtain ⟨hm1, hm2⟩ := hm
    by_cases hms2 : m = size
    ·subst hms2
     rw [tbX_full]
     simp -implicitDefEqProofs [r27_12, k27_12, trim_le]
    have hml : m < size := by omega
    have gm : (m : Int) < (size : Int) := by omega
    have wm : IntKind.i64.wrap ((m : Int) + 1) = ((m + 1 : Nat) : Int) := (wrap64 (by omega) (by omega)).trans (by omega)
    have ih2 := ih2 (m + 1) (by omega) ⟨by omega, hml⟩
    have lz := fun c sz => l0 c (ns.length - d) (by omega) (by omega) sz
    rw [show 1 + (ns.length - (ns.length - d)) = 1 + d by omega] at lz
    have im := fun b t g k => ixr b m hml t g k
    have fl0 : (fillQ (f (ns.length - d)) m size).length = size := fill_len
    have s1 := stm _ m 99 fl0 hml
    have fs := fill_set (f := f (ns.length - d)) (m := m) (size := size)
    simp -implicitDefEqProofs [k27_12, -Int.natCast_add] at ih2
    by_cases hd0 : d = 0
    ·have e99 : f (ns.length - d) m = 99 := by rw [← hf, hd0, Nat.sub_zero]; exact needI_top (by omega)
     rw [e99] at fs
     rw [fs] at s1
     have gl : ¬ iz < (ns.length : Int) := by omega
     simp -implicitDefEqProofs [r27_12, k27_12, gm, ii, lz, im, s1, lN, gl, wm, ih2, tln, trim_le, -Int.natCast_add]
    ·have hdp : 0 < d := by omega
     have hil : ns.length - d < ns.length := by omega
     have gl : iz < (ns.length : Int) := by omega
     have wi : IntKind.i64.wrap (iz + 1) = ((ns.length - d + 1 : Nat) : Int) := (wrap64 (by omega) (by omega)).trans (by omega)
     have in1 := iN (ns.length - d) hil
     rw [← hiz] at in1
     have bc := bc ns[ns.length - d]
     have hrem := Co.rem_le m (maskF AL ns[ns.length - d])
     have br := bin_remI (P := E.P) (t := 3) (a := m) (b := maskF AL ns[ns.length - d]) (by omega) (by have := hms ns[ns.length - d]; omega)
     have i1 := ix0 (ns.length - d + 1) (by omega)
     have l1 := fun c sz => l0 c (ns.length - d + 1) (by omega) (by omega) sz
     rw [show 1 + (ns.length - (ns.length - d + 1)) = d by omega] at l1
     have lo := fun c s (hs : s < size) sz => obj_load (h := tbX ns.length size f d c) (sz := sz) (tbX_low hdp) (fill_get (f := f (ns.length - (d - 1))) hs hs)
     rw [show ns.length - (d - 1) = ns.length - d + 1 by omega] at lo
     have lo1 := fun c sz => lo c m hml sz
     have lo2 := fun c sz => lo c (rem m (maskF AL ns[ns.length - d])) (by omega) sz
     have ir := fun b t g k => ixr b (rem m (maskF AL ns[ns.length - d])) (by omega) t g k
     have ef : f (ns.length - d) m = min (f (ns.length - d + 1) m) (1 + f (ns.length - d + 1) (rem m (maskF AL ns[ns.length - d]))) := by rw [← hf]; exact needI_row hil (by omega)
     have b2 : 0 ≤ f (ns.length - d + 1) (rem m (maskF AL ns[ns.length - d])) ∧ f (ns.length - d + 1) (rem m (maskF AL ns[ns.length - d])) ≤ 99 := by
      rw [← hf]
      have := Co.need_inf 99 ((prs AL ns).drop (ns.length - d + 1)) (rem m (maskF AL ns[ns.length - d]))
      unfold needI
      omega
     have wa : IntKind.i64.wrap (1 + f (ns.length - d + 1) (rem m (maskF AL ns[ns.length - d]))) = 1 + f (ns.length - d + 1) (rem m (maskF AL ns[ns.length - d])) := wrap64 (by omega) (by omega)
     have mm := minI (f (ns.length - d + 1) m) (1 + f (ns.length - d + 1) (rem m (maskF AL ns[ns.length - d])))
     rw [← ef] at mm
     have s2 := stm ((fillQ (f (ns.length - d)) m size).set m (.int .i64 99)) m (f (ns.length - d) m) (by rw [List.length_set, fill_len]) hml
     rw [List.set_set, fs] at s2
     generalize (fillQ (f (ns.length - d)) m size).set m (.int .i64 99) = C9 at *
     generalize f (ns.length - d + 1) (rem m (maskF AL ns[ns.length - d])) = v2 at *
     generalize f (ns.length - d + 1) m = v1 at *
     generalize f (ns.length - d) m = v0 at *
     generalize rem m (maskF AL ns[ns.length - d]) = rm at *
     generalize maskF AL ns[ns.length - d] = mk at *
     generalize ((ns.length - d + 1 : Nat) : Int) = i2 at *
     simp -implicitDefEqProofs [r27_12, k27_12, gm, ii, lz, im, s1, lN, gl, wi, in1, bc, br, i1, l1, lo1, lo2, ir, wa, mm, s2, wm, ih2, tln, trim_le, -Int.natCast_add]
 ·simp -implicitDefEqProofs [k27_3]
 ·rfl
 ·intro nx i c hi _
  subst hi
  simp -implicitDefEqProofs [r27_3, k27_3, lA, trim_le, -Int.natCast_pow]
 ·intro nx i v rest c hi hv hd hw _ ih
  have ih := ih () trivial
  have hi2 : ((i : Int) < (A.length : Int)) := by omega
  have e2 : (((i + 1 : Nat) : Int)) = (i : Int) + 1 := by omega
  have hp : 2 ^ (i + 1) ≤ 2 ^ 8 := Nat.pow_le_pow_right (by omega) (by omega)
  have hp1 : 0 < 2 ^ i := Nat.pow_pos (by omega)
  rw [Nat.pow_succ] at hp
  have w2 : IntKind.i64.wrap (2 * ((2 ^ i : Nat) : Int)) = ((2 ^ (i + 1) : Nat) : Int) := (wrap64 (by omega) (by omega)).trans (by rw [Nat.pow_succ]; omega)
  generalize ((2 ^ (i + 1) : Nat) : Int) = p2 at *
  generalize ((2 ^ i : Nat) : Int) = p1 at *
  generalize ((2 ^ A.length : Nat) : Int) = p3 at *
  rw [e2] at ih
  simp -implicitDefEqProofs [k27_3] at ih
  simp -implicitDefEqProofs [r27_3, k27_3, lA, hi2, w2, hw, ih, trim_le]
end Go.Proofs.YtgefjhjmkejjbaaDoor.Bm
namespace Go.Proofs.YtgefjhjmkejjbaaDoor.Bm
open Go Go.RowKit
open Co (apartR packO packR)
theorem push1 {α : Type} {O : Enc α} {el : El} {lo : Nat} {H : Heap} {k : Option Bool} {a : List α} {s : α} (hel : el.size = 1) (hk : Enc.Ok k a) (hb : (a.length + 1) * el.bytes ≤ 2 ^ 47) (hlo : lo ≤ H.length) :
  ∃ V1 H1, (∀ st, appendT (some el) H lo st (lst true []) (O.o k a) = some (V1, H1)) ∧ appendT (some el) H1 lo false V1 (lst true (O.vals [s])) = some (Enc.sl H.length (a ++ [s]), H ++ [O.row el.e (a ++ [s])]) := by
 have last : ∀ x : List α, (H ++ [O.row el.e x])[H.length]? = some (O.row el.e x) := fun x => by rw [List.getElem?_append_right (Nat.le_refl _)]; simp
 by_cases ha : a = []
 ·subst ha
  refine ⟨lst true [], H, fun st => Enc.app_none (O := O) hel (Enc.cells_o hk), ?_⟩
  exact Enc.app_tree (O := O) (el := el) (l := []) (m := [s]) hel (by rw [← hel]; exact hel ▸ Enc.cells_tree (O := O)) (by simp) (by simpa using hb)
 ·have hb2 : a.length * el.bytes ≤ 2 ^ 47 := Nat.le_trans (Nat.mul_le_mul_right _ (Nat.le_succ _)) hb
  refine ⟨Enc.sl H.length a, H ++ [O.row el.e a], fun st => Enc.app_tree (O := O) (el := el) (l := []) (m := a) hel (Enc.cells_o hk) ha (by simpa using hb2), ?_⟩
  have := Enc.app (O := O) (el := el) (lo := lo) (m := [s]) (h := H ++ [O.row el.e a]) (b := H.length) (t := el.e) (l := a) hel (last _) (Enc.cells_tree (O := O) (x := true)) hlo (by simpa using hb)
  rw [List.set_append_right _ _ (Nat.le_refl _), Nat.sub_self] at this
  exact this
theorem frzAll4 {P : Program} {lo : Nat} {v1 v2 v3 v4 u3 : Value} {h h' : Heap} (h1 : ∀ h, freezeV P depth lo h v1 = some (v1, h)) (h2 : ∀ h, freezeV P depth lo h v2 = some (v2, h)) (h3 : freezeV P depth lo h v3 = some (u3, h')) (h4 : ∀ h, freezeV P depth lo h v4 = some (v4, h)) :
  frzAll P lo [v1, v2, v3, v4] h = some ([v1, v2, u3, v4], h') := by
 unfold frzAll
 simp [h1, h2, h3, h4]
theorem frz_int {P : Program} {n lo : Nat} {h : Heap} {k : IntKind} {z : Int} : freezeV P (n + 1) lo h (.int k z) = some (.int k z, h) := rfl
theorem o_dropI {k : Option Bool} {l : List Nat} (hk : Enc.Ok k (castL l)) {n : Nat} (hn : n ≤ l.length) : ∃ k', (∀ H : Heap, sliceT (.sl 3 ⟨some false, some 1⟩) H (intE.o k (castL l)) (some (.int .i64 (n : Int))) none none = some (intE.o k' (castL (l.drop n)))) ∧ Enc.Ok k' (castL (l.drop n)) := by
 have e : castL (l.drop n) = (castL l).drop n := by unfold castL; rw [List.map_drop]
 have hn' : n ≤ (castL l).length := by rw [cast_len]; exact hn
 rw [e]
 generalize castL l = L at *
 cases k with
 | none =>
  have := hk rfl
  subst this
  have hn0 : n = 0 := by simpa using hn'
  subst hn0
  exact ⟨none, fun _ => rfl, fun _ => rfl⟩
 | some x => exact ⟨some x, fun _ => Enc.drop_tree (O := intE) rfl hn', Enc.ok_some⟩
theorem packO_none {l : List (List ByteArray)} {n : Nat} : ∀ {r : List Nat} {g : Option Bool × List Nat}, g.2.length ≠ n → (packO l n r g).2 = [] → packO l n r g = (none, [])
 | [], g, hg, h => by rw [Co.packO_nil, if_neg hg]
 | i :: r, g, hg, h => by
  rw [Co.packO_cons, if_neg hg] at h ⊢
  have ih := packO_none (l := l) (n := n) (r := r) (g := g) hg
  split
  ·split
   ·rename_i q1 q2
    rw [if_pos q1, if_pos q2] at h
    exact ih h
   ·rename_i q1 q2
    rw [if_pos q1, if_neg q2] at h
    exact absurd h q2
  ·rename_i q1
   rw [if_neg q1] at h
   exact ih h
theorem packO_len {l : List (List ByteArray)} {n : Nat} : ∀ {r : List Nat} {g : Option Bool × List Nat}, (packO l n r g).2 ≠ [] → (packO l n r g).2.length ≤ g.2.length + r.length ∧ ∀ k ∈ (packO l n r g).2, k ∈ g.2 ∨ k ∈ r
 | [], g, h => by
  rw [Co.packO_nil] at h ⊢
  split
  ·exact ⟨Nat.le_refl _, fun k hk => .inl hk⟩
  ·exact ⟨Nat.zero_le _, fun k hk => by cases hk⟩
 | i :: r, g, h => by
  rw [Co.packO_cons] at h ⊢
  have i1 := packO_len (l := l) (n := n) (r := r) (g := g)
  have i2 := packO_len (l := l) (n := n) (r := r) (g := (some false, g.2 ++ [i]))
  rw [List.length_cons]
  split
  ·exact ⟨by omega, fun k hk => .inl hk⟩
  ·rename_i q0
   rw [if_neg q0] at h
   split
   ·rename_i q1
    rw [if_pos q1] at h
    split
    ·rename_i q2
     rw [if_pos q2] at h
     obtain ⟨a1, a2⟩ := i1 h
     exact ⟨by omega, fun k hk => (a2 k hk).imp id (List.mem_cons_of_mem _)⟩
    ·rename_i q2
     rw [if_neg q2] at h
     obtain ⟨a1, a2⟩ := i2 h
     rw [List.length_append, List.length_singleton] at a1
     refine ⟨by omega, fun k hk => ?_⟩
     rcases a2 k hk with q | q
     ·rcases List.mem_append.1 q with q | q
      ·exact .inl q
      ·rw [List.mem_singleton.1 q]; exact .inr List.mem_cons_self
     ·exact .inr (List.mem_cons_of_mem _ q)
   ·rename_i q1
    rw [if_neg q1] at h
    obtain ⟨a1, a2⟩ := i1 h
    exact ⟨by omega, fun k hk => (a2 k hk).imp id (List.mem_cons_of_mem _)⟩
theorem lenI {k : Option Bool} {l : List Nat} (hk : Enc.Ok k (castL l)) {H : Heap} : lenT .sl H (intE.o k (castL l)) = some (.int .i64 l.length) := by rw [Enc.o_len hk, cast_len]
theorem packO_enc {l : List (List ByteArray)} {n : Nat} {r : List Nat} {g : Option Bool × List Nat} (hg : g.1 = none → g.2 = []) : Enc.Ok (packO l n r g).1 (castL (packO l n r g).2) := fun h => by
 rw [Co.packO_ok l n r g hg h]; rfl
def PkR (K : Option Bool) (A : List (Option Bool × List ByteArray)) (n : Nat) (o : List Nat) : Prop := ∀ (Ko : Option Bool) (g : Option Bool × List Nat), Enc.Ok Ko (castL o) → (g.1 = none → g.2 = []) → (∀ k ∈ o, k < A.length) → (∀ k ∈ g.2, k < A.length) → g.2.length + o.length ≤ 1000 →
  pureCall E.P (L E) 48 [listE.o K A, intE.o Ko (castL o), intE.o g.1 (castL g.2), .int .i64 (n : Int)] = some (intE.o (packO (als A) n o g).1 (castL (packO (als A) n o g).2))
set_option maxHeartbeats 4000000 in
theorem packR_step {K : Option Bool} {A : List (Option Bool × List ByteArray)} (a : AlOk K A) {n : Nat} {o : List Nat} (ih : ∀ o', o'.length < o.length → PkR K A n o') : PkR K A n o := by
 intro Ko g hKo hg ho hgo hlen
 have hge : Enc.Ok g.1 (castL g.2) := fun h => by rw [hg h]; rfl
 have lG : ∀ H, lenT .sl H (intE.o g.1 (castL g.2)) = some (.int .i64 g.2.length) := fun H => lenI hge
 have lO : ∀ H, lenT .sl H (intE.o Ko (castL o)) = some (.int .i64 o.length) := fun H => lenI hKo
 have iO : ∀ (m : Nat) (hm : m < o.length), indexAddrT (.sl 3 ⟨some false, some 1⟩) (intE.o Ko (castL o)) (.int .i64 (m : Int)) = some (cptr (.int .i64 (o[m] : Int))) := fun m hm => by
  rw [Enc.index_o (O := intE) hKo (show m < (castL o).length by rw [cast_len]; exact hm), cast_get hm]; rfl
 have sO := fun m (hm : m ≤ o.length) => o_dropI hKo hm
 have bA : ∀ d n, below (d + 1) n (listE.o K A) = true := fun d n => Enc.o_bel
 have bO : ∀ d n, below (d + 1) n (intE.o Ko (castL o)) = true := fun d n => Enc.o_bel
 have bG : ∀ d n, below (d + 1) n (intE.o g.1 (castL g.2)) = true := fun d n => Enc.o_bel
 have ap := fun (v : Nat) lo H => push1 (O := intE) (el := elInt) (lo := lo) (H := H) (k := g.1) (a := castL g.2) (s := (v : Int)) rfl hge (by rw [cast_len]; show (g.2.length + 1) * 8 ≤ _; omega)
 have ac := fun (i : Nat) (hi : i < A.length) lo st h => apart_callR a (i := i) hge (by omega) hi hgo (lo := lo) (st := st) (h := h)
 have fA : ∀ h, freezeV E.P depth 0 h (listE.o K A) = some (listE.o K A, h) := fun h => Enc.o_frz
 rw [pureCall_fn F48 rfl]
 by_cases hn : g.2.length = n
 ·have hn' : (g.2.length : Int) = (n : Int) := by omega
  have e : packO (als A) n o g = g := by
   cases o with
   | nil => rw [Co.packO_nil, if_pos hn]
   | cons i r => rw [Co.packO_cons, if_pos hn]
  rw [e]
  have rG : ∀ h, reifyR E.P h (intE.o g.1 (castL g.2)) = some (intE.o g.1 (castL g.2)) := fun h => Enc.o_reifyR
  generalize listE.o K A = VA at *
  generalize intE.o Ko (castL o) = VO at *
  generalize intE.o g.1 (castL g.2) = VG at *
  simp -implicitDefEqProofs [r48, p48, lG, hn', rG]
 have hn' : ¬ (g.2.length : Int) = (n : Int) := by omega
 have hnone := packO_none (l := als A) (n := n) (r := o) (g := g) hn
 have rP : ∀ h, reifyR E.P h (intE.o (packO (als A) n o g).1 (castL (packO (als A) n o g).2)) = some (intE.o (packO (als A) n o g).1 (castL (packO (als A) n o g).2)) := fun h => Enc.o_reifyR
 have pcs := fun (v : Nat) (hv : v < A.length) (rest : List Nat) (hr : rest.length < o.length) (hro : ∀ k ∈ rest, k < A.length) (Kr : Option Bool) (hKr : Enc.Ok Kr (castL rest)) => ih rest hr Kr (some false, g.2 ++ [v]) hKr (fun h => by cases h) hro (fun k hk => by
  rcases List.mem_append.1 hk with q | q
  ·exact hgo k q
  ·rw [List.mem_singleton.1 q]; exact hv) (by
   show (g.2 ++ [v]).length + rest.length ≤ 1000
   rw [List.length_append, List.length_singleton]; omega)
 have aps := fun v => Co.packO_cons (als A) n v
 generalize hVA : listE.o K A = VA at *
 generalize hVO : intE.o Ko (castL o) = VO at *
 generalize hVG : intE.o g.1 (castL g.2) = VG at *
 obtain ⟨R, hR⟩ : ∃ R, R = packO (als A) n o g := ⟨_, rfl⟩
 rw [← hR] at rP hnone ⊢
 simp -implicitDefEqProofs [r48, p48, lG, hn']
 rw [LL_for (γ := Unit) o () (fun i _ => [(9, .int .i64 (i : Int))]) (fun _ _ => []) (fun i rest _ => if (packO (als A) n rest g).2 = [] then (.exit 0, [(9, undef)], []) else (.ret, [(8, intE.o (packO (als A) n rest g).1 (castL (packO (als A) n rest g).2)), (9, undef)], [])) (fun _ _ => True) (by omega) trivial]
 ·rw [← hR]
  by_cases q : R.2 = []
  ·rw [if_pos q, hnone q]
   simp -implicitDefEqProofs [k48_4]; rfl
  ·rw [if_neg q]
   generalize intE.o R.1 (castL R.2) = VR at *
   simp -implicitDefEqProofs [k48_4, rP]
 ·simp -implicitDefEqProofs [k48_4]
 ·rfl
 ·intro nx i c hi _
  rw [Co.packO_nil, if_neg hn, if_pos rfl]
  simp -implicitDefEqProofs [r48_4, k48_4, lO, hi, trim_le]
 ·intro nx i v rest c hi hv hd hw _ ihl
  have ihl := ihl () trivial
  have hi2 : ((i : Int) < (o.length : Int)) := by omega
  have x1 := iO i hi
  rw [hv] at x1
  have hvA : v < A.length := ho v (by rw [← hv]; exact List.getElem_mem hi)
  have ac := ac v hvA
  have hd2 : o.drop (i + 1) = rest := by
   rw [List.drop_eq_getElem_cons hi] at hd
   exact (List.cons.inj hd).2
  obtain ⟨Kr, sr, hKr⟩ := sO (i + 1) (by omega)
  rw [hd2] at sr hKr
  have hrl : rest.length < o.length := by rw [← hd2, List.length_drop]; omega
  have pc := pcs v hvA rest hrl (fun k hk => ho k (List.mem_of_mem_drop (i := i + 1) (by rw [hd2]; exact hk))) Kr hKr
  have e2 : (((i + 1 : Nat) : Int)) = (i : Int) + 1 := by omega
  rw [e2] at ihl sr
  cases qa : apartR (als A) v g.2
  ·have ep : packO (als A) n (v :: rest) g = packO (als A) n rest g := by rw [aps, if_neg hn, qa, if_neg (by decide)]
   rw [qa] at ac
   rw [ep]
   generalize (if (packO (als A) n rest g).2 = [] then ((Exit.exit 0, [(9, undef)], []) : Exit × List (Nat × Value) × Heap) else (.ret, [(8, intE.o (packO (als A) n rest g).1 (castL (packO (als A) n rest g).2)), (9, undef)], [])) = RR at *
   simp -implicitDefEqProofs [k48_4] at ihl
   simp -implicitDefEqProofs [r48_4, k48_4, lO, hi2, x1, ac, hw, ihl, trim_le]
  ·have ep : packO (als A) n (v :: rest) g = if (packO (als A) n rest (some false, g.2 ++ [v])).2 = [] then packO (als A) n rest g else packO (als A) n rest (some false, g.2 ++ [v]) := by rw [aps, if_neg hn, qa, if_pos rfl]
   rw [qa] at ac
   rw [ep]
   obtain ⟨V1, H1, a1, a2⟩ := ap v 0 [] (Nat.zero_le _)
   have ecl : castL g.2 ++ [(v : Int)] = castL (g.2 ++ [v]) := by unfold castL; rw [List.map_append]; rfl
   rw [ecl] at a2
   have fz : freezeV E.P depth 0 ([] ++ [intE.row 3 (castL (g.2 ++ [v]))]) (Enc.sl 0 (castL (g.2 ++ [v]))) = some (intE.o (some false) (castL (g.2 ++ [v])), [AObj.dead]) := by
    have := Enc.frz_sl (O := intE) (P := E.P) (h := [] ++ [intE.row 3 (castL (g.2 ++ [v]))]) (b := 0) (lo := 0) (t := 3) (l := castL (g.2 ++ [v])) rfl sInt aInt (Nat.le_refl _)
    rw [if_neg (by rw [cast_len, List.length_append]; simp)] at this
    exact this
   have f4 := frzAll4 (v4 := .int .i64 (n : Int)) fA (fun h => Enc.o_frz (O := intE) (k := Kr) (l := castL rest)) fz (fun h => frz_int (n := 7))
   obtain ⟨P, hP⟩ : ∃ P, P = packO (als A) n rest (some false, g.2 ++ [v]) := ⟨_, rfl⟩
   have hPe : Enc.Ok P.1 (castL P.2) := by rw [hP]; exact packO_enc fun h => by cases h
   rw [← hP] at pc ⊢
   have lP : ∀ H, lenT .sl H (intE.o P.1 (castL P.2)) = some (.int .i64 P.2.length) := fun H => lenI hPe
   have bP : ∀ d n, below (d + 1) n (intE.o P.1 (castL P.2)) = true := fun d n => Enc.o_bel
   simp -implicitDefEqProofs only [List.nil_append, List.length_nil] at a2 f4
   generalize hV2 : Enc.sl 0 (castL (g.2 ++ [v])) = V2 at *
   generalize intE.row 3 (castL (g.2 ++ [v])) = RW at *
   generalize intE.o (some false) (castL (g.2 ++ [v])) = VN at *
   generalize intE.o Kr (castL rest) = VR at *
   have li1 : ∀ H, buildSliceT (some elInt) false H 1 #[(0, .int .i64 (v : Int))] = some (lst true (intE.vals [(v : Int)]), H) := fun H => Enc.lit (O := intE) (v : Int) rfl rfl rfl
   have li0 : ∀ H, buildSliceT (some elInt) false H 0 #[] = some (lst true [], H) := fun _ => rfl
   by_cases q : P.2 = []
   ·simp only [if_pos q]
    have hq : ¬ 0 < P.2.length := by rw [q]; decide
    generalize (if (packO (als A) n rest g).2 = [] then ((Exit.exit 0, [(9, undef)], []) : Exit × List (Nat × Value) × Heap) else (.ret, [(8, intE.o (packO (als A) n rest g).1 (castL (packO (als A) n rest g).2)), (9, undef)], [])) = RR at *
    generalize intE.o P.1 (castL P.2) = VP at *
    simp -implicitDefEqProofs [k48_4] at ihl
    simp -implicitDefEqProofs [r48_4, k48_4, lO, hi2, x1, ac, li0, li1, a1, a2, sr, hw, ret4 m48, f4, pc, lP, hq, trim_cut, bA, bO, bG, ihl, -List.all_eq_true, -List.all_map]
   ·simp only [if_neg q]
    have hq : 0 < P.2.length := List.length_pos_iff.2 q
    generalize intE.o P.1 (castL P.2) = VP at *
    simp -implicitDefEqProofs [r48_4, k48_4, lO, hi2, x1, ac, li0, li1, a1, a2, sr, hw, ret4 m48, f4, pc, lP, hq, trim_cut, bA, bO, bG, bP, -List.all_eq_true, -List.all_map]
theorem packR_spec {K : Option Bool} {A : List (Option Bool × List ByteArray)} (a : AlOk K A) {n : Nat} : ∀ (N : Nat) (o : List Nat), o.length ≤ N → PkR K A n o := by
 intro N
 induction N with
 | zero => intro o ho; exact packR_step a fun o' h => by omega
 | succ N ih => intro o ho; exact packR_step a fun o' h => ih o' (by omega)
theorem packR_call {K Ko : Option Bool} {A : List (Option Bool × List ByteArray)} {o : List Nat} {n : Nat} (a : AlOk K A) (hKo : Enc.Ok Ko (castL o)) (ho : ∀ k ∈ o, k < A.length) (hol : o.length ≤ 1000) {lo : Nat} {h : Heap} :
  retCall E (L E) lo false 48 [listE.o K A, intE.o Ko (castL o), .slice none 0 0, .int .i64 (n : Int)] h = some (intE.o (packO (als A) n o (none, [])).1 (castL (packR (als A) n o [])), h) := by
 have := packR_spec a (n := n) o.length o (Nat.le_refl _) Ko (none, []) hKo (fun _ => rfl) ho (fun k hk => by cases hk) (by show 0 + o.length ≤ 1000; omega)
 rw [ret4 m48, frzAll4 (v4 := .int .i64 (n : Int)) (fun h => Enc.o_frz (O := listE) (k := K) (l := A)) (fun h => Enc.o_frz (O := intE) (k := Ko) (l := castL o)) (v3 := .slice none 0 0) (u3 := .slice none 0 0) (h' := h) rfl (fun h => frz_int (n := 7)), Option.bind_some]
 have e : Enc.o intE none (castL []) = Value.slice none 0 0 := rfl
 simp only [e] at this
 rw [this, Co.packO_snd]; rfl
end Go.Proofs.YtgefjhjmkejjbaaDoor.Bm
