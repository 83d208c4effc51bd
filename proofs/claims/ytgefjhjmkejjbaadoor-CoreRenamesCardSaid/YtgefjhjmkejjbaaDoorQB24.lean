/-
  Chapter 27: the law of other names. Conditions: each lemma says its own.
-/
import Derived.Test.YtgefjhjmkejjbaaDoorQB23
namespace Go.Proofs.YtgefjhjmkejjbaaDoor.Bm
open Go Go.RowKit
open Co (ltB ascB rem maskF allF proveF coreF namesF errF followF hitsF lessL)
abbrev RowL := List (Option Bool × List Int)
def sameR : RowL → RowL → Bool
  | x :: R, y :: T => (decide (x.2.length = y.2.length) && sameB x.2 y.2) && sameR R T
  | _, _ => true
theorem sameR_eq : ∀ {R T : RowL}, R.length = T.length → sameR R T = decide (R.map (·.2) = T.map (·.2))
  | [], [], _ => rfl
  | [], _ :: _, h => by simp at h
  | _ :: _, [], h => by simp at h
  | x :: R, y :: T, h => by
    have ih := sameR_eq (R := R) (T := T) (by simpa using h)
    show ((decide (x.2.length = y.2.length) && sameB x.2 y.2) && sameR R T) = _
    rw [ih]
    by_cases hl : x.2.length = y.2.length
    · rw [same_eq hl, decide_eq_true hl, Bool.true_and, Bool.eq_iff_iff]
      simp
    · rw [decide_eq_false hl, Bool.false_and, Bool.false_and, eq_comm, decide_eq_false_iff_not]
      intro e
      rw [List.map_cons, List.map_cons] at e
      exact hl (by rw [(List.cons.inj e).1])
set_option maxHeartbeats 2000000 in
theorem proofs_spec {ka kb : Option Bool} {R T : RowL} (hR : FlP ka R) (hT : FlP kb T) (hRl : R.length ≤ 1000000000000) : pureCall E.P (L E) 16 [rowE.o ka R, rowE.o kb T] = some (.bool (decide (R.map (·.2) = T.map (·.2)))) := by
  have la : ∀ H, lenT .sl H (rowE.o ka R) = some (.int .i64 R.length) := fun H => Enc.o_len hR.kk
  have lb : ∀ H, lenT .sl H (rowE.o kb T) = some (.int .i64 T.length) := fun H => Enc.o_len hT.kk
  have ia : ∀ (i : Nat) (hi : i < R.length), indexAddrT (.sl 42 ⟨some false, some 1⟩) (rowE.o ka R) (.int .i64 (i : Int)) = some (cptr (rowE.e R[i])) := fun i hi => Enc.index_o hR.kk hi
  have ib : ∀ (i : Nat) (hi : i < T.length), indexAddrT (.sl 42 ⟨some false, some 1⟩) (rowE.o kb T) (.int .i64 (i : Int)) = some (cptr (rowE.e T[i])) := fun i hi => Enc.index_o hT.kk hi
  rw [pureCall_fn F16 rfl]
  generalize rowE.o ka R = VA at *
  generalize rowE.o kb T = VB at *
  by_cases hl : R.length = T.length
  · rw [← sameR_eq hl]
    simp -implicitDefEqProofs [r16, p16, la, lb, hl]
    rw [LL_for (γ := Unit) R () (fun i _ => [(5, .int .i64 i)]) (fun _ _ => []) (fun i rest _ => if sameR rest (T.drop i) = true then (.exit 0, [(5, undef)], []) else (.ret, [(4, .bool false), (5, undef)], [])) (fun _ _ => True) (by omega) trivial]
    · rw [List.drop_zero]
      by_cases q : sameR R T = true
      · simp -implicitDefEqProofs [k16_4, q]
      · simp -implicitDefEqProofs [k16_4, q]
    · simp -implicitDefEqProofs [k16_4]
    · rfl
    · intro nx i c hi _
      have e : ∀ y, sameR [] y = true := fun _ => rfl
      simp -implicitDefEqProofs [r16_4, k16_4, la, hi, hl, e, trim_le]
    · intro nx i v rest c hi hv hd hw _ ih
      have ih := ih () trivial
      have hi2 : ((i : Int) < R.length) := by omega
      have hi3 : ((i : Int) < T.length) := by omega
      have x1 := ia i hi
      have hib : i < T.length := by omega
      have x2 := ib i hib
      rw [hv] at x1
      have hvr := hR.rows v (by rw [← hv]; exact List.getElem_mem hi)
      have htr := hT.rows T[i] (List.getElem_mem hib)
      have e2 : (((i + 1 : Nat) : Int)) = (i : Int) + 1 := by omega
      rw [e2] at ih
      rw [List.drop_eq_getElem_cons hib]
      rw [show sameR (v :: rest) (T[i] :: T.drop (i + 1)) = ((decide (v.2.length = T[i].2.length) && sameB v.2 T[i].2) && sameR rest (T.drop (i + 1))) from rfl]
      simp -implicitDefEqProofs [k16_4] at ih
      generalize T[i] = y at *
      generalize T.drop (i + 1) = bd at *
      have le1 : ∀ h sz, loadT ⟨some false, sz⟩ h (cptr (rowE.e v)) = some (intE.o v.1 v.2) := fun h sz => Enc.load_e (O := rowE) _
      have le2 : ∀ h sz, loadT ⟨some false, sz⟩ h (cptr (rowE.e y)) = some (intE.o y.1 y.2) := fun h sz => Enc.load_e (O := rowE) _
      have lv : ∀ H, lenT .sl H (intE.o v.1 v.2) = some (.int .i64 v.2.length) := fun H => Enc.o_len hvr.1
      have ly : ∀ H, lenT .sl H (intE.o y.1 y.2) = some (.int .i64 y.2.length) := fun H => Enc.o_len htr.1
      have iv : ∀ (j : Nat) (hj : j < v.2.length), indexAddrT (.sl 3 ⟨some false, some 1⟩) (intE.o v.1 v.2) (.int .i64 (j : Int)) = some (cptr (.int .i64 v.2[j])) := fun j hj => Enc.index_o hvr.1 hj
      have iy : ∀ (j : Nat) (hj : j < y.2.length), indexAddrT (.sl 3 ⟨some false, some 1⟩) (intE.o y.1 y.2) (.int .i64 (j : Int)) = some (cptr (.int .i64 y.2[j])) := fun j hj => Enc.index_o htr.1 hj
      have hvl := hvr.2
      generalize intE.o v.1 v.2 = VX at *
      generalize intE.o y.1 y.2 = VY at *
      generalize cptr (rowE.e v) = PX at *
      generalize cptr (rowE.e y) = PY at *
      generalize v.2 = xs at *
      generalize y.2 = ys at *
      by_cases q : xs.length = ys.length
      · rw [decide_eq_true q, Bool.true_and]
        simp -implicitDefEqProofs [r16_4, k16_4, la, hi3, hl, x1, x2, le1, le2, lv, ly, q]
        rw [LL_for (γ := Unit) xs () (fun j _ => [(6, .int .i64 j)]) (fun _ _ => []) (fun j rest _ => if sameB rest (ys.drop j) = true then (.exit 2, [(6, undef)], []) else (.ret, [(4, .bool false), (6, undef)], [])) (fun _ _ => True) (by omega) trivial]
        · rw [List.drop_zero]
          cases q2 : sameB xs ys
          · simp -implicitDefEqProofs [k16_9, trim_le]
          · simp -implicitDefEqProofs [k16_9, trim_le, hw, ih]
        · simp -implicitDefEqProofs [k16_9]
        · rfl
        · intro nx2 j c2 hj _
          have e : ∀ y : List Int, sameB [] y = true := fun _ => rfl
          simp -implicitDefEqProofs [r16_9, k16_9, x1, le1, lv, hj, q, e, trim_le]
        · intro nx2 j u rest2 c2 hj hu hd2 hw2 _ ih2
          have ih2 := ih2 () trivial
          have hj2 : ((j : Int) < xs.length) := by omega
          have hj3 : ((j : Int) < ys.length) := by omega
          have hjb : j < ys.length := by omega
          have z1 := iv j hj
          have z2 := iy j hjb
          rw [hu] at z1
          have e3 : (((j + 1 : Nat) : Int)) = (j : Int) + 1 := by omega
          rw [e3] at ih2
          rw [List.drop_eq_getElem_cons hjb]
          rw [show sameB (u :: rest2) (ys[j] :: ys.drop (j + 1)) = (decide (u = ys[j]) && sameB rest2 (ys.drop (j + 1))) from rfl]
          simp -implicitDefEqProofs [k16_9] at ih2
          generalize ys[j] = bi at *
          generalize ys.drop (j + 1) = bd2 at *
          by_cases q2 : u = bi
          · subst q2
            simp -implicitDefEqProofs [r16_9, k16_9, hj3, q, x1, x2, le1, le2, lv, z1, z2, trim_le, hw2, ih2]
          · simp -implicitDefEqProofs [r16_9, k16_9, hj3, q, q2, x1, x2, le1, le2, lv, z1, z2, trim_le]
      · rw [decide_eq_false q, Bool.false_and, Bool.false_and]
        have q' : ¬ (xs.length : Int) = (ys.length : Int) := by omega
        simp -implicitDefEqProofs [q', r16_4, k16_4, la, hi3, hl, x1, x2, le1, le2, lv, ly, trim_le]
  · have : decide (R.map (·.2) = T.map (·.2)) = false := decide_eq_false fun e => hl (by
      have := congrArg List.length e
      rw [List.length_map, List.length_map] at this
      exact this)
    rw [this]
    have hl' : ¬ (R.length : Int) = (T.length : Int) := by omega
    simp -implicitDefEqProofs [hl', r16, p16, la, lb]
end Go.Proofs.YtgefjhjmkejjbaaDoor.Bm
namespace Go.Proofs.YtgefjhjmkejjbaaDoor.Bm
open Go Go.RowKit
open Co (ltB ascB rem maskF allF proveF coreF namesF errF followF hitsF lessL)
def fewS (l : List ByteArray) : Bool := l.all fun s => decide (s.size ≤ 40)
def fewA (A : List (Option Bool × List ByteArray)) : Bool := A.all fun x => decide (x.2.length ≤ 14) && fewS x.2
set_option maxHeartbeats 2000000 in
theorem fewA_spec {K : Option Bool} {A : List (Option Bool × List ByteArray)} (hk : Enc.Ok K A) (hrow : ∀ x ∈ A, Enc.Ok x.1 x.2) (hl : A.length ≤ 9223372036854775807) : pureCall E.P (L E) 9 [listE.o K A] = some (.bool (fewA A && decide (A.length ≤ 10))) := by
  have la : ∀ H, lenT .sl H (listE.o K A) = some (.int .i64 A.length) := fun H => Enc.o_len hk
  have ia : ∀ (i : Nat) (hi : i < A.length), indexAddrT (.sl 23 ⟨some false, some 1⟩) (listE.o K A) (.int .i64 (i : Int)) = some (cptr (listE.e A[i])) := fun i hi => Enc.index_o hk hi
  have e10 : decide ((A.length : Int) ≤ 10) = decide (A.length ≤ 10) := by
    rw [Bool.eq_iff_iff, decide_eq_true_eq, decide_eq_true_eq]; omega
  rw [pureCall_fn F9 rfl]
  generalize listE.o K A = VA at *
  simp -implicitDefEqProofs [r9, p9]
  rw [LL_for (γ := Unit) A () (fun i _ => [(3, .int .i64 i)]) (fun _ _ => []) (fun i rest _ => if fewA rest = true then (.exit 0, [(3, undef)], []) else (.ret, [(2, .bool false), (3, undef)], [])) (fun _ _ => True) hl trivial]
  · cases q : fewA A
    · simp -implicitDefEqProofs [k9_2]
    · simp -implicitDefEqProofs [k9_2, la, e10]
  · simp -implicitDefEqProofs [k9_2]
  · rfl
  · intro nx i c hi _
    have e : fewA [] = true := rfl
    simp -implicitDefEqProofs [r9_2, k9_2, la, hi, e, trim_le]
  · intro nx i v rest c hi hv hd hw _ ih
    have ih := ih () trivial
    have hi2 : ((i : Int) < A.length) := by omega
    have x1 := ia i hi
    rw [hv] at x1
    have hvr := hrow v (by rw [← hv]; exact List.getElem_mem hi)
    have le1 : ∀ h sz, loadT ⟨some false, sz⟩ h (cptr (listE.e v)) = some (strE.o v.1 v.2) := fun h sz => Enc.load_e (O := listE) _
    have lv : ∀ H, lenT .sl H (strE.o v.1 v.2) = some (.int .i64 v.2.length) := fun H => Enc.o_len hvr
    have iv : ∀ (j : Nat) (hj : j < v.2.length), indexAddrT (.sl 9 ⟨some false, some 1⟩) (strE.o v.1 v.2) (.int .i64 (j : Int)) = some (cptr (.string v.2[j])) := fun j hj => Enc.index_o hvr hj
    have e2 : (((i + 1 : Nat) : Int)) = (i : Int) + 1 := by omega
    rw [e2] at ih
    rw [show fewA (v :: rest) = ((decide (v.2.length ≤ 14) && fewS v.2) && fewA rest) from rfl]
    simp -implicitDefEqProofs [k9_2] at ih
    generalize cptr (listE.e v) = PX at *
    generalize strE.o v.1 v.2 = VX at *
    generalize v.2 = xs at *
    by_cases q : xs.length ≤ 14
    · have q' : ¬ (14 : Int) < (xs.length : Int) := by omega
      rw [decide_eq_true q, Bool.true_and]
      simp -implicitDefEqProofs [r9_2, k9_2, la, hi2, x1, le1, lv, q']
      rw [LL_for (γ := Unit) xs () (fun j _ => [(4, .int .i64 j)]) (fun _ _ => []) (fun j rest _ => if fewS rest = true then (.exit 2, [(4, undef)], []) else (.ret, [(2, .bool false), (4, undef)], [])) (fun _ _ => True) (by omega) trivial]
      · cases q2 : fewS xs
        · simp -implicitDefEqProofs [k9_7, trim_le]
        · simp -implicitDefEqProofs [k9_7, trim_le, hw, ih]
      · simp -implicitDefEqProofs [k9_7]
      · rfl
      · intro nx2 j c2 hj _
        have e : fewS [] = true := rfl
        simp -implicitDefEqProofs [r9_7, k9_7, x1, le1, lv, hj, e, trim_le]
      · intro nx2 j u rest2 c2 hj hu hd2 hw2 _ ih2
        have ih2 := ih2 () trivial
        have hj2 : ((j : Int) < xs.length) := by omega
        have z1 := iv j hj
        rw [hu] at z1
        have e3 : (((j + 1 : Nat) : Int)) = (j : Int) + 1 := by omega
        rw [e3] at ih2
        rw [show fewS (u :: rest2) = (decide (u.size ≤ 40) && fewS rest2) from rfl]
        simp -implicitDefEqProofs [k9_7] at ih2
        by_cases q2 : u.size ≤ 40
        · have q2' : ¬ (40 : Int) < (u.size : Int) := by omega
          simp -implicitDefEqProofs [r9_7, k9_7, hj2, x1, le1, lv, z1, q2, q2', trim_le, hw2, ih2]
        · have q2' : (40 : Int) < (u.size : Int) := by omega
          simp -implicitDefEqProofs [r9_7, k9_7, hj2, x1, le1, lv, z1, q2, q2', trim_le]
    · have q' : (14 : Int) < (xs.length : Int) := by omega
      rw [decide_eq_false q, Bool.false_and, Bool.false_and]
      simp -implicitDefEqProofs [r9_2, k9_2, la, hi2, x1, le1, lv, q', trim_le]
theorem few_al {K : Option Bool} {A : List (Option Bool × List ByteArray)} (hk : Enc.Ok K A) (hrow : ∀ x ∈ A, Enc.Ok x.1 x.2) (h1 : fewA A = true) (h2 : A.length ≤ 10) : AlOk K A := ⟨hk, hrow, fun x hx => by
  have := List.all_eq_true.1 h1 x hx
  simp only [Bool.and_eq_true, decide_eq_true_eq] at this
  omega, by omega⟩
end Go.Proofs.YtgefjhjmkejjbaaDoor.Bm
namespace Go.Proofs.YtgefjhjmkejjbaaDoor.Bm
open Go Go.RowKit
open Co (ltB ascB rem maskF allF proveF coreF namesF errF followF hitsF lessL)
theorem frzAll_o {k : Option Bool} {A : List (Option Bool × List ByteArray)} {lo : Nat} {h : Heap} : frzAll E.P lo [listE.o k A] h = some ([listE.o k A], h) := by cases k <;> rfl
theorem prv_set {k : Option Bool} {A : List (Option Bool × List ByteArray)} : [listE.o k A].all (settled 8) = true := by cases k <;> rfl
theorem least_call {K : Option Bool} {A : List (Option Bool × List ByteArray)} (a : AlOk K A) {lo : Nat} {h : Heap} : retCall E (L E) lo false 11 [listE.o K A] h = some (.tuple #[strE.o (coreO A).1 (coreO A).2, .int .i64 (errV A)], h) := by
  rw [ret4 m11, frzAll_o, Option.bind_some, least_top a]; rfl
theorem prove_call {K : Option Bool} {A : List (Option Bool × List ByteArray)} (a : AlOk K A) {lo : Nat} {st : Bool} {h : Heap} : retCall E (L E) lo st 13 [listE.o K A] h = some (.tuple #[rowE.o (proofO A).1 (proofO A).2, .int .i64 (errV A)], h) := by
  rw [ret1s m13 prv_set, prove_top a]; rfl
theorem hits_call {K kc : Option Bool} {A : List (Option Bool × List ByteArray)} {c : List ByteArray} (a : AlOk K A) (hkc : Enc.Ok kc c) (hc : c.length ≤ 1000000) {lo : Nat} {st : Bool} {h : Heap} : retCall E (L E) lo st 17 [listE.o K A, strE.o kc c] h = some (.bool (hitsF (als A) c), h) := by
  have r1 : ∀ H, reify E.P 8 H (listE.o K A) = some (listE.o K A) := fun H => Enc.o_reify
  have r2 : ∀ H, reify E.P 8 H (strE.o kc c) = some (strE.o kc c) := fun H => Enc.o_reify
  have ht := hits_top a hkc hc
  simp -implicitDefEqProofs [ret0 m17, r1, r2, ht]
theorem check_call {K kc : Option Bool} {A : List (Option Bool × List ByteArray)} {c : List ByteArray} {kp : Option Bool} {R : RowL} (a : AlOk K A) (hkc : Enc.Ok kc c) (hc : c.length ≤ 1000000) (hR : FlP kp R) {lo : Nat} {st : Bool} {h : Heap} : retCall E (L E) lo st 19 [listE.o K A, strE.o kc c, rowE.o kp R] h = some (.int .i64 (checkV A c (R.map (·.2))), h) := by
  have r1 : ∀ H, reify E.P 8 H (listE.o K A) = some (listE.o K A) := fun H => Enc.o_reify
  have r2 : ∀ H, reify E.P 8 H (strE.o kc c) = some (strE.o kc c) := fun H => Enc.o_reify
  have r3 : ∀ H, reify E.P 8 H (rowE.o kp R) = some (rowE.o kp R) := fun H => Enc.o_reify
  have ht := check_top a hkc hc hR
  simp -implicitDefEqProofs [ret0 m19, r1, r2, r3, ht]
theorem texts_call {ka kb : Option Bool} {a b : List ByteArray} (hka : Enc.Ok ka a) (hkb : Enc.Ok kb b) (ha : a.length ≤ 1000000) (hb : b.length ≤ 1000000) {lo : Nat} {st : Bool} {h : Heap} : retCall E (L E) lo st 15 [strE.o ka a, strE.o kb b] h = some (.bool (decide (a = b)), h) := by
  have r1 : ∀ H, reify E.P 8 H (strE.o ka a) = some (strE.o ka a) := fun H => Enc.o_reify
  have r2 : ∀ H, reify E.P 8 H (strE.o kb b) = some (strE.o kb b) := fun H => Enc.o_reify
  have ht := texts_spec hka hkb ha hb
  simp -implicitDefEqProofs [ret0 m15, r1, r2, ht]
theorem proofs_call {ka kb : Option Bool} {R T : RowL} (hR : FlP ka R) (hT : FlP kb T) (hRl : R.length ≤ 1000000000000) {lo : Nat} {st : Bool} {h : Heap} : retCall E (L E) lo st 16 [rowE.o ka R, rowE.o kb T] h = some (.bool (decide (R.map (·.2) = T.map (·.2))), h) := by
  have r1 : ∀ H, reify E.P 8 H (rowE.o ka R) = some (rowE.o ka R) := fun H => Enc.o_reify
  have r2 : ∀ H, reify E.P 8 H (rowE.o kb T) = some (rowE.o kb T) := fun H => Enc.o_reify
  have ht := proofs_spec hR hT hRl
  simp -implicitDefEqProofs [ret0 m16, r1, r2, ht]
theorem al_some {A : List (Option Bool × List ByteArray)} (h : ∀ x ∈ A, x.1 = some true ∧ x.2.length ≤ 10) (hl : A.length ≤ 10) : AlOk (some true) A := ⟨Enc.ok_some, fun x hx => by rw [(h x hx).1]; exact Enc.ok_some, fun x hx => by have := (h x hx).2; omega, by omega⟩
theorem alA : AlOk (some true) exA := al_some (by simp [exA]) (by decide)
theorem alB : AlOk (some true) exB := al_some (by simp [exB]) (by decide)
theorem alC : AlOk (some true) exC := al_some (by simp [exC]) (by decide)
theorem alD : AlOk (some true) exD := al_some (by simp [exD]) (by decide)
theorem rows_some {R : RowL} (h : ∀ x ∈ R, (∃ y, x.1 = some y) ∧ x.2.length ≤ 10) (hl : R.length ≤ 10) {k : Bool} : FlP (some k) R := ⟨Enc.ok_some, fun x hx => ⟨by
  obtain ⟨y, hy⟩ := (h x hx).1
  rw [hy]; exact Enc.ok_some, by have := (h x hx).2; omega⟩, by omega⟩
theorem cO_A : coreO exA = (some false, [sB]) := by unfold coreO; rw [exA_e, exA_c]; rfl
theorem cO_B : coreO exB = (some false, [sA, sC]) := by unfold coreO; rw [exB_e, exB_c]; rfl
theorem cO_C : coreO exC = (some false, [sA, sB]) := by unfold coreO; rw [exC_e, exC_c]; rfl
theorem cO_D : coreO exD = (none, []) := by unfold coreO; rw [exD_e]; rfl
def exP : RowL := [(some false, [1, 0, 0, 1]), (some false, [0, 2]), (some false, [0, 1])]
theorem pO_C : proofO exC = (some false, exP) := by
  unfold proofO
  rw [exC_e, exC_c]
  show (if (0 : Int) = 0 then ((some false, prfL (proveF (als exC) 2 (allF (als exC)))) : Option Bool × RowL) else _) = _
  rw [exC_p]; rfl
set_option maxHeartbeats 4000000 in
theorem small_spec : pureCall E.P (L E) 8 [] = some (.bool true) := by
  have l1 : ∀ lo H, retCall E (L E) lo false 11 [listE.o (some true) [(some true, [⟨⟨[97]⟩⟩, ⟨⟨[98]⟩⟩]), (some true, [⟨⟨[98]⟩⟩, ⟨⟨[99]⟩⟩])]] H = some (.tuple #[strE.o (some false) [⟨⟨[98]⟩⟩], .int .i64 0], H) := fun lo H => by
    have := least_call alA (lo := lo) (h := H)
    rw [cO_A, exA_e] at this
    exact this
  have l2 : ∀ lo H, retCall E (L E) lo false 11 [listE.o (some true) [(some true, [⟨⟨[97]⟩⟩, ⟨⟨[98]⟩⟩]), (some true, [⟨⟨[99]⟩⟩])]] H = some (.tuple #[strE.o (some false) [⟨⟨[97]⟩⟩, ⟨⟨[99]⟩⟩], .int .i64 0], H) := fun lo H => by
    have := least_call alB (lo := lo) (h := H)
    rw [cO_B, exB_e] at this
    exact this
  have l3 : ∀ lo H, retCall E (L E) lo false 11 [listE.o (some true) [(some true, [⟨⟨[97]⟩⟩, ⟨⟨[98]⟩⟩]), (some true, [⟨⟨[97]⟩⟩, ⟨⟨[99]⟩⟩]), (some true, [⟨⟨[98]⟩⟩, ⟨⟨[99]⟩⟩])]] H = some (.tuple #[strE.o (some false) [⟨⟨[97]⟩⟩, ⟨⟨[98]⟩⟩], .int .i64 0], H) := fun lo H => by
    have := least_call alC (lo := lo) (h := H)
    rw [cO_C, exC_e] at this
    exact this
  have l4 : ∀ lo H, retCall E (L E) lo false 11 [listE.o (some true) [(some true, [⟨⟨[97]⟩⟩]), (some true, [])]] H = some (.tuple #[.slice none 0 0, .int .i64 4], H) := fun lo H => by
    have := least_call alD (lo := lo) (h := H)
    rw [cO_D, exD_e] at this
    exact this
  have p3 : ∀ lo st H, retCall E (L E) lo st 13 [listE.o (some true) [(some true, [⟨⟨[97]⟩⟩, ⟨⟨[98]⟩⟩]), (some true, [⟨⟨[97]⟩⟩, ⟨⟨[99]⟩⟩]), (some true, [⟨⟨[98]⟩⟩, ⟨⟨[99]⟩⟩])]] H = some (.tuple #[rowE.o (some false) exP, .int .i64 0], H) := fun lo st H => by
    have := prove_call alC (lo := lo) (st := st) (h := H)
    rw [pO_C, exC_e] at this
    exact this
  have fP : FlP (some false) exP := rows_some (by simp [exP]) (by decide)
  have ck : ∀ lo st H, retCall E (L E) lo st 19 [listE.o (some true) [(some true, [⟨⟨[97]⟩⟩, ⟨⟨[98]⟩⟩]), (some true, [⟨⟨[97]⟩⟩, ⟨⟨[99]⟩⟩]), (some true, [⟨⟨[98]⟩⟩, ⟨⟨[99]⟩⟩])], strE.o (some false) [⟨⟨[97]⟩⟩, ⟨⟨[98]⟩⟩], rowE.o (some false) exP] H = some (.int .i64 0, H) := fun lo st H => by
    have := check_call alC (kc := some false) (c := [sA, sB]) Enc.ok_some (by decide) fP (lo := lo) (st := st) (h := H)
    have e : checkV exC [sA, sB] (exP.map (·.2)) = 0 := exC_k
    rw [e] at this
    exact this
  have ck2 : ∀ lo st H, retCall E (L E) lo st 19 [listE.o (some true) [(some true, [⟨⟨[97]⟩⟩, ⟨⟨[98]⟩⟩]), (some true, [⟨⟨[97]⟩⟩, ⟨⟨[99]⟩⟩]), (some true, [⟨⟨[98]⟩⟩, ⟨⟨[99]⟩⟩])], strE.o (some false) [⟨⟨[97]⟩⟩, ⟨⟨[98]⟩⟩], lst (false && 2 == exP.length) (rowE.vals (exP.take 2))] H = some (.int .i64 19, H) := fun lo st H => by
    have := check_call alC (kc := some false) (c := [sA, sB]) Enc.ok_some (by decide) (kp := some false) (R := exP.take 2) (rows_some (by simp [exP]) (by decide)) (lo := lo) (st := st) (h := H)
    have e : checkV exC [sA, sB] ((exP.take 2).map (·.2)) = 19 := exC_k2
    rw [e] at this
    exact this
  have ht : ∀ lo st H, retCall E (L E) lo st 17 [listE.o (some true) [(some true, [⟨⟨[97]⟩⟩, ⟨⟨[98]⟩⟩]), (some true, [⟨⟨[97]⟩⟩, ⟨⟨[99]⟩⟩]), (some true, [⟨⟨[98]⟩⟩, ⟨⟨[99]⟩⟩])], strE.o (some false) [⟨⟨[97]⟩⟩, ⟨⟨[98]⟩⟩]] H = some (.bool true, H) := fun lo st H => by
    have := hits_call alC (kc := some false) (c := [sA, sB]) Enc.ok_some (by decide) (lo := lo) (st := st) (h := H)
    rw [exC_h] at this
    exact this
  have tx : ∀ lo st H (x : List ByteArray), x.length ≤ 5 → retCall E (L E) lo st 15 [strE.o (some false) x, strE.o (some true) x] H = some (.bool true, H) := fun lo st H x hx => by
    have := texts_call (ka := some false) (kb := some true) (a := x) (b := x) Enc.ok_some Enc.ok_some (by omega) (by omega) (lo := lo) (st := st) (h := H)
    rw [decide_eq_true rfl] at this
    exact this
  have t1 := fun lo st H => tx lo st H [⟨⟨[98]⟩⟩] (by decide)
  have t2 := fun lo st H => tx lo st H [⟨⟨[97]⟩⟩, ⟨⟨[99]⟩⟩] (by decide)
  have t3 := fun lo st H => tx lo st H [⟨⟨[97]⟩⟩, ⟨⟨[98]⟩⟩] (by decide)
  have sp : ∀ lo st H, retCall E (L E) lo st 16 [rowE.o (some false) exP, rowE.o (some true) [(some true, [1, 0, 0, 1]), (some true, [0, 2]), (some true, [0, 1])]] H = some (.bool true, H) := fun lo st H => by
    have := proofs_call (kb := some true) (T := [(some true, [1, 0, 0, 1]), (some true, [0, 2]), (some true, [0, 1])]) fP (rows_some (by simp) (by decide)) (by decide) (lo := lo) (st := st) (h := H)
    rw [show exP.map (·.2) = [(some true, [1, 0, 0, 1]), (some true, [0, 2]), ((some true, [0, 1]) : Option Bool × List Int)].map (·.2) from rfl, decide_eq_true rfl] at this
    exact this
  have lP : ∀ H, lenT .sl H (rowE.o (some false) exP) = some (.int .i64 3) := fun H => rfl
  have sl : ∀ H, sliceT (.sl 42 ⟨some false, some 1⟩) H (rowE.o (some false) exP) none (some (.int .i64 2)) none = some (lst (false && 2 == exP.length) (rowE.vals (exP.take 2))) := fun H => Enc.take_tree (O := rowE) (n := 2) (by decide)
  generalize lst (false && 2 == exP.length) (rowE.vals (exP.take 2)) = VQ at sl ck2
  have mn : aMinMax false [.int .i64 2, .int .i64 3] = some (.int .i64 2) := rfl
  rw [pureCall_fn F8 rfl]
  simp -implicitDefEqProofs [r8, p8, litS0, litS1, litS2, litI2, litI4, litL2, litL3, litR3, l1, l2, l3, l4, p3, t1, t2, t3, sp, ck, ck2, ht, lP, mn, sl]
end Go.Proofs.YtgefjhjmkejjbaaDoor.Bm
namespace Go.Proofs.YtgefjhjmkejjbaaDoor.Bm
open Go Go.RowKit
open Co (ltB ascB rem maskF allF proveF coreF namesF errF followF hitsF lessL)
theorem good_of {A : List (Option Bool × List ByteArray)} (he : errV A = 0) : Co.Good ltB (als A) := (Co.err_good (by decide) (by decide)).1 he
theorem small_call {lo : Nat} {st : Bool} {h : Heap} : retCall E (L E) lo st 8 [] h = some (.bool true, h) := by
  have := small_spec
  simp -implicitDefEqProofs [ret0 m8, this]
theorem fewA_call {K : Option Bool} {A : List (Option Bool × List ByteArray)} (hk : Enc.Ok K A) (hrow : ∀ x ∈ A, Enc.Ok x.1 x.2) (hl : A.length ≤ 9223372036854775807) {lo : Nat} {st : Bool} {h : Heap} : retCall E (L E) lo st 9 [listE.o K A] h = some (.bool (fewA A && decide (A.length ≤ 10)), h) := by
  have r1 : ∀ H, reify E.P 8 H (listE.o K A) = some (listE.o K A) := fun H => Enc.o_reify
  have := fewA_spec hk hrow hl
  simp -implicitDefEqProofs [ret0 m9, r1, this]
theorem prove_rows {ls : List (List ByteArray)} (h12 : ∀ a ∈ ls, a.length ≤ 12) : ∀ (f o : Nat), f ≤ 100 → ∀ L ∈ proveF ls f o, L.length ≤ 1000
  | 0, _, _, L, h => by cases h
  | f + 1, o, hf, L, h => by
    unfold proveF at h
    cases hp : Co.packF ls o (f + 1) (List.range ls.length) [] with
    | some K =>
      rw [hp] at h
      have h : L = 0 :: K.map Int.ofNat := List.mem_singleton.1 h
      have := Co.pack_len hp
      rw [h, List.length_cons, List.length_map]
      omega
    | none =>
      rw [hp] at h
      have hn : (Co.choicesF ls o (ls.getD (Co.firstF o ls.length 0) [])).length ≤ 12 := by
        have h1 : (Co.choicesF ls o (ls.getD (Co.firstF o ls.length 0) [])).length ≤ (List.range (ls.getD (Co.firstF o ls.length 0) []).length).length := List.length_filter_le _ _
        rw [List.length_range] at h1
        have h2 : (ls.getD (Co.firstF o ls.length 0) []).length ≤ 12 := by
          rw [List.getD_eq_getElem?_getD]
          cases hg : ls[Co.firstF o ls.length 0]? with
          | none => simp
          | some a => exact h12 a (List.mem_of_getElem? hg)
        omega
      rcases List.mem_cons.1 h with h | h
      · rw [h, List.length_cons, List.length_cons, List.length_map]; omega
      · obtain ⟨i, _, hi⟩ := List.mem_flatMap.1 h
        exact prove_rows h12 f _ (by omega) L hi
theorem proof_fl {A : List (Option Bool × List ByteArray)} : FlP (proofO A).1 (proofO A).2 := by
  unfold proofO
  split
  · rename_i he
    have g := good_of he
    obtain ⟨c1, c2⟩ := core_pos he
    refine ⟨Enc.ok_some, fun x hx => ?_, ?_⟩
    · obtain ⟨L, hL, rfl⟩ := List.mem_map.1 hx
      exact ⟨Enc.ok_some, prove_rows g.small _ _ (by omega) L hL⟩
    · unfold prfL
      rw [List.length_map]
      have h1 := prove_len (als A) g.small (coreF ltB (als A)).length (allF (als A))
      have h2 : 13 ^ (coreF ltB (als A)).length ≤ 13 ^ 8 := Nat.pow_le_pow_right (by omega) c2
      have h3 : (13 : Nat) ^ 8 ≤ 1000000000000 := by decide
      omega
  · exact ⟨fun _ => rfl, fun x hx => (by cases hx), Nat.zero_le _⟩
theorem core_ok {A : List (Option Bool × List ByteArray)} : Enc.Ok (coreO A).1 (coreO A).2 ∧ (coreO A).2.length ≤ 8 := by
  unfold coreO
  split
  · rename_i he
    exact ⟨Enc.ok_some, (core_pos he).2⟩
  · exact ⟨fun _ => rfl, Nat.zero_le _⟩
end Go.Proofs.YtgefjhjmkejjbaaDoor.Bm
namespace Go.Proofs.YtgefjhjmkejjbaaDoor.Bm
open Go Go.RowKit
open Co (ltB ascB insF namesF)
def OutV (H : Heap) (V : Value) (l : List ByteArray) : Prop := (∃ k, Enc.Ok k l ∧ V = strE.o k l) ∨ ∃ b, V = Enc.sl b l ∧ H[b]? = some (strE.row 9 l)
theorem sStr : szOf E.P 9 = some 1 := by kernel_rfl
theorem aStr : aggT E.P 9 = some false := by kernel_rfl
theorem OutV.reify {H : Heap} {V : Value} {l : List ByteArray} (o : OutV H V l) : ∃ k, reifyR E.P H V = some (strE.o k l) ∧ Enc.Ok k l := by
  rcases o with ⟨k, hk, rfl⟩ | ⟨b, rfl, hb⟩
  · exact ⟨k, Enc.o_reifyR, hk⟩
  · exact ⟨some false, Enc.reifyR_sl (O := strE) hb sStr aStr, Enc.ok_some⟩
end Go.Proofs.YtgefjhjmkejjbaaDoor.Bm
namespace Go.Proofs.YtgefjhjmkejjbaaDoor.Bm
open Go Go.RowKit
open Co (ltB ascB rem maskF allF proveF coreF namesF errF followF hitsF lessL subF)
def LwG (X : Res) : Prop := ∃ h', X = some (.bool true, h')
end Go.Proofs.YtgefjhjmkejjbaaDoor.Bm
namespace Go.Proofs.YtgefjhjmkejjbaaDoor.Bm
open Go Go.RowKit
open Co (ltB ascB rem maskF allF proveF coreF namesF errF followF hitsF lessL)
theorem sLst : szOf E.P 23 = some 1 := by kernel_rfl
theorem aLst : aggT E.P 23 = some false := by kernel_rfl
theorem litL1 (H : Heap) (k : Option Bool) (x : List ByteArray) : buildSliceT (some elList) false H 1 #[(0, strE.o k x)] = some (lst true (listE.vals [(k, x)]), H) := Enc.lit (O := listE) (k, x) rfl rfl rfl
end Go.Proofs.YtgefjhjmkejjbaaDoor.Bm
namespace Go.Proofs.YtgefjhjmkejjbaaDoor.Co
open Go
variable {S : Type} [DecidableEq S]
omit [DecidableEq S] in
theorem asc_front {lt : S → S → Bool} {f : S → S} (hf : Front lt f) : ∀ l : List S, ascB lt (l.map f) = ascB lt l
  | [] => rfl
  | [_] => rfl
  | a :: b :: l => by
    show (lt (f a) (f b) && ascB lt ((b :: l).map f)) = (lt a b && ascB lt (b :: l))
    rw [hf.lt, asc_front hf (b :: l)]
omit [DecidableEq S] in
theorem err_front {lt : S → S → Bool} {f : S → S} (hf : Front lt f) {x y : Int} (l : List (List S)) : errF lt x y (mapL f l) = errF lt x y l := by
  unfold errF badA mapL
  rw [List.length_map, List.any_map, List.any_map]
  simp only [Function.comp_def, List.length_map, asc_front hf, List.isEmpty_map]
omit [DecidableEq S] in
theorem err_rev {lt : S → S → Bool} {x y : Int} (l : List (List S)) : errF lt x y l.reverse = errF lt x y l := by
  unfold errF badA
  rw [List.length_reverse, List.any_reverse, List.any_reverse]
theorem less_app (l a b : List UInt8) : Op.bytesLess (l ++ a) (l ++ b) = Op.bytesLess a b := by
  induction l with
  | nil => rfl
  | cons x l ih => rw [List.cons_append, List.cons_append, less_cons, ih]; simp
theorem data_app (a b : ByteArray) : (a ++ b).data.toList = a.data.toList ++ b.data.toList := by
  simp [ByteArray.data_append]
theorem front_app (p : ByteArray) : Front ltB (fun x => p ++ x) where
  inj := fun a b h => by
    refine bytes_ext ?_
    have h := congrArg (fun z : ByteArray => z.data.toList) h
    simp only [data_app] at h
    exact List.append_cancel_left h
  lt := fun a b => by
    show Op.bytesLess (p ++ a).data.toList (p ++ b).data.toList = Op.bytesLess a.data.toList b.data.toList
    rw [data_app, data_app, less_app]
end Go.Proofs.YtgefjhjmkejjbaaDoor.Co
namespace Go.Proofs.YtgefjhjmkejjbaaDoor.Bm
open Go Go.RowKit
open Co (ltB ascB rem maskF allF proveF coreF namesF errF followF hitsF lessL mapL)
abbrev AL := List (Option Bool × List ByteArray)
def oth (f : ByteArray → ByteArray) (A : AL) : AL := A.map fun x => (some false, x.2.map f)
theorem als_oth (f : ByteArray → ByteArray) (A : AL) : als (oth f A) = mapL f (als A) := by
  unfold als oth mapL
  rw [List.map_map, List.map_map]; rfl
theorem als_rev (A : AL) : als A.reverse = (als A).reverse := by unfold als; rw [List.map_reverse]
theorem err_oth {f : ByteArray → ByteArray} (hf : Co.Front ltB f) (A : AL) : errV (oth f A) = errV A := by unfold errV; rw [als_oth, Co.err_front hf]
theorem err_rev (A : AL) : errV A.reverse = errV A := by unfold errV; rw [als_rev, Co.err_rev]
theorem core_oth {f : ByteArray → ByteArray} (hf : Co.Front ltB f) (A : AL) : (coreO (oth f A)).2 = (coreO A).2.map f := by
  unfold coreO
  rw [err_oth hf]
  split
  · show coreF ltB (als (oth f A)) = (coreF ltB (als A)).map f
    rw [als_oth, Co.core_front Co.ordB hf]
  · rfl
theorem core_rev (A : AL) : (coreO A.reverse).2 = (coreO A).2 := by
  unfold coreO
  rw [err_rev]
  split
  · rename_i he
    show coreF ltB (als A.reverse) = coreF ltB (als A)
    rw [als_rev]
    exact Co.core_perm Co.ordB (fun a => List.mem_reverse.symm) (good_of he).ne
  · rfl
theorem proof_oth {f : ByteArray → ByteArray} (hf : Co.Front ltB f) (A : AL) : proofO (oth f A) = proofO A := by
  unfold proofO
  rw [err_oth hf]
  have h1 : (coreF ltB (als (oth f A))).length = (coreF ltB (als A)).length := by rw [als_oth, Co.core_front Co.ordB hf, List.length_map]
  have h2 : allF (als (oth f A)) = allF (als A) := by
    unfold Co.allF
    rw [als_oth]; unfold mapL; rw [List.length_map]
  rw [h1, h2]
  rw [show proveF (als (oth f A)) (coreF ltB (als A)).length (allF (als A)) = proveF (als A) (coreF ltB (als A)).length (allF (als A)) by rw [als_oth]; exact Co.prove_front hf _ _ _]
def u8E : Enc Int := ⟨.int .u8, fun _ => rfl, fun _ _ => rfl, fun _ _ _ => rfl, fun _ _ => rfl⟩
theorem oth_app (f : ByteArray → ByteArray) (A : AL) (v : Option Bool × List ByteArray) : oth f (A ++ [v]) = oth f A ++ [(some false, v.2.map f)] := by unfold oth; rw [List.map_append]; rfl
theorem oth_len (f : ByteArray → ByteArray) (A : AL) : (oth f A).length = A.length := List.length_map _
theorem frz_at {Y Z : AObj} {O : AL} : ∃ Y', freezeV E.P depth 0 [listE.row 23 O, Y, Z] (Enc.sl 0 O) = some (listE.o (some false) O, [Y', Y, Z]) := by
  have fz := Enc.frz_sl (P := E.P) (O := listE) (lo := 0) (h := [listE.row 23 O, Y, Z]) (b := 0) (t := 23) (l := O) rfl sLst aLst (Nat.zero_le _)
  split at fz
  · exact ⟨_, fz⟩
  · exact ⟨_, fz⟩
theorem frz_at1 {Y Z : AObj} {O : AL} : ∃ Y', freezeV E.P depth 0 [Y, listE.row 23 O, Z] (Enc.sl 1 O) = some (listE.o (some false) O, [Y, Y', Z]) := by
  have fz := Enc.frz_sl (P := E.P) (O := listE) (lo := 0) (h := [Y, listE.row 23 O, Z]) (b := 1) (t := 23) (l := O) rfl sLst aLst (Nat.zero_le _)
  split at fz
  · exact ⟨_, fz⟩
  · exact ⟨_, fz⟩
theorem frz_at2 {Y Z : AObj} {X : List ByteArray} : ∃ Y', freezeV E.P depth 0 [Y, Z, strE.row 9 X] (Enc.sl 2 X) = some (strE.o (some false) X, [Y, Z, Y']) := by
  have fz := Enc.frz_sl (P := E.P) (O := strE) (lo := 0) (h := [Y, Z, strE.row 9 X]) (b := 2) (t := 9) (l := X) rfl sStr aStr (Nat.zero_le _)
  split at fz
  · exact ⟨_, fz⟩
  · exact ⟨_, fz⟩
set_option maxHeartbeats 8000000 in
theorem renames_law {A : AL} {c : Nat} (hA : ∀ x ∈ A, Enc.Ok x.1 x.2) (hAl : A.length ≤ 9223372036854775807) :
    LwG (L E 7 [listE.o (some false) A, .int .u8 (c : Int)] [] 0) := by
  have fw := fun lo st h => fewA_call (K := some false) Enc.ok_some hA hAl (lo := lo) (st := st) (h := h)
  have sm := fun lo st h => small_call (lo := lo) (st := st) (h := h)
  rw [L_fn F7 rfl]
  cases q1 : (fewA A && decide (A.length ≤ 10))
  · simp only [q1] at fw
    refine ⟨[], ?_⟩
    generalize listE.o (some false) A = VA at *
    simp -implicitDefEqProofs [r7, p7, sm, fw]
  simp only [q1] at fw
  rw [Bool.and_eq_true, decide_eq_true_eq] at q1
  have al := few_al (K := some false) Enc.ok_some hA q1.1 q1.2
  have hsm : ∀ x ∈ A, x.2.length ≤ 14 ∧ ∀ s ∈ x.2, s.size ≤ 40 := fun x hx => by
    have := List.all_eq_true.1 q1.1 x hx
    simp only [Bool.and_eq_true, decide_eq_true_eq] at this
    exact ⟨this.1, fun s hs => of_decide_eq_true (List.all_eq_true.1 this.2 s hs)⟩
  have hl10 := q1.2
  have le := fun lo h => least_call al (lo := lo) (h := h)
  have pr := fun lo st h => prove_call al (lo := lo) (st := st) (h := h)
  have lA : ∀ H, lenT .sl H (listE.o (some false) A) = some (.int .i64 A.length) := fun H => Enc.o_len Enc.ok_some
  have iA : ∀ (i : Nat) (hi : i < A.length), indexAddrT (.sl 23 ⟨some false, some 1⟩) (listE.o (some false) A) (.int .i64 (i : Int)) = some (cptr (listE.e A[i])) := fun i hi => Enc.index_o Enc.ok_some hi
  have leE : ∀ (v : Option Bool × List ByteArray) H sz, loadT ⟨some false, sz⟩ H (cptr (listE.e v)) = some (strE.o v.1 v.2) := fun v H sz => Enc.load_e (O := listE) _
  have hck := (core_ok (A := A)).1
  have hcl := (core_ok (A := A)).2
  have hc40 : ∀ s ∈ (coreO A).2, s.size ≤ 40 := fun s hs => by
    unfold coreO at hs
    split at hs
    · rename_i he
      have k := Co.core_is Co.ordB (good_of he).ne
      have hs : s ∈ coreF ltB (als A) := hs
      obtain ⟨a, ha, hsa⟩ := (Co.names_mem Co.ordB).1 (k.sub.subset hs)
      unfold als at ha
      obtain ⟨x, hx, rfl⟩ := List.mem_map.1 ha
      exact (hsm x hx).2 s hsa
    · cases hs
  have lO : ∀ H, lenT .sl H (strE.o (coreO A).1 (coreO A).2) = some (.int .i64 (coreO A).2.length) := fun H => Enc.o_len hck
  have iO : ∀ (m : Nat) (hm : m < (coreO A).2.length), indexAddrT (.sl 9 ⟨some false, some 1⟩) (strE.o (coreO A).1 (coreO A).2) (.int .i64 (m : Int)) = some (cptr (.string (coreO A).2[m])) := fun m hm => Enc.index_o hck hm
  obtain ⟨fr, hfr⟩ : ∃ fr, fr = strNums [(c : Int)] := ⟨_, rfl⟩
  have hfs : fr.size = 1 := by rw [hfr]; rfl
  have lu : ∀ H, buildSliceT (some ⟨5, 1, 1, .int .u8 0, ⟨some false, some 1⟩⟩) false H 1 #[(0, .int .u8 (c : Int))] = some (lst true [.int .u8 (c : Int)], H) := fun H => Enc.lit (O := u8E) (c : Int) rfl rfl rfl
  have byt : ∀ H, bytesH H (lst true [.int .u8 (c : Int)]) = some (.string fr) := fun H => by rw [hfr]; rfl
  obtain ⟨f, hF⟩ : ∃ f : ByteArray → ByteArray, f = fun x => fr ++ x := ⟨_, rfl⟩
  have hf : Co.Front ltB f := by rw [hF]; exact Co.front_app fr
  have cat : ∀ t (s : ByteArray), s.size ≤ 40 → aBin E.P .add t (.string fr) (.string s) = some (.string (f s)) := fun t s hs => by
    show (if ((fr.size + s.size : Nat) : Int) > IntKind.i64.max then none else some (Value.string (fr ++ s))) = _
    rw [if_neg (by rw [hfs]; show ¬ _ > (9223372036854775807 : Int); omega), hF]
  have hnL := fun (h : Heap) (σ : Slots) (s : Nat) => newK_nil (P := E.P) (t := 23) (h := h) (σ := σ) (s := s) (n := 0) sLst
  have hnS := fun (h : Heap) (σ : Slots) (s : Nat) => newK_nil (P := E.P) (t := 9) (h := h) (σ := σ) (s := s) (n := 0) sStr
  -- what is called with the new lists
  have alO : AlOk (some false) (oth f A) := ⟨Enc.ok_some, fun x hx => by
    obtain ⟨y, _, rfl⟩ := List.mem_map.1 hx
    exact Enc.ok_some, fun x hx => by
    obtain ⟨y, hy, rfl⟩ := List.mem_map.1 hx
    have := (hsm y hy).1
    show (y.2.map f).length ≤ _
    rw [List.length_map]; omega, by rw [oth_len]; omega⟩
  have alR : AlOk (some false) A.reverse := ⟨Enc.ok_some, fun x hx => hA x (List.mem_reverse.1 hx), fun x hx => by
    have := (hsm x (List.mem_reverse.1 hx)).1; omega, by rw [List.length_reverse]; omega⟩
  have leO := fun lo h => least_call alO (lo := lo) (h := h)
  have prO := fun lo st h => prove_call alO (lo := lo) (st := st) (h := h)
  have leR := fun lo h => least_call alR (lo := lo) (h := h)
  have tx1 := texts_spec (ka := (coreO (oth f A)).1) (a := (coreO (oth f A)).2) (kb := some false) (b := (coreO A).2.map f) (core_ok (A := oth f A)).1 Enc.ok_some (by have := (core_ok (A := oth f A)).2; omega) (by rw [List.length_map]; omega)
  have tx2 := texts_spec (ka := (coreO A.reverse).1) (a := (coreO A.reverse).2) (kb := (coreO A).1) (b := (coreO A).2) (core_ok (A := A.reverse)).1 hck (by have := (core_ok (A := A.reverse)).2; omega) (by omega)
  have rC1 : ∀ H, reify E.P 8 H (strE.o (coreO (oth f A)).1 (coreO (oth f A)).2) = some (strE.o (coreO (oth f A)).1 (coreO (oth f A)).2) := fun H => Enc.o_reify
  have rC2 : ∀ H, reify E.P 8 H (strE.o (coreO A.reverse).1 (coreO A.reverse).2) = some (strE.o (coreO A.reverse).1 (coreO A.reverse).2) := fun H => Enc.o_reify
  have rC3 : ∀ H, reify E.P 8 H (strE.o (coreO A).1 (coreO A).2) = some (strE.o (coreO A).1 (coreO A).2) := fun H => Enc.o_reify
  rw [decide_eq_true (core_oth hf A)] at tx1
  rw [decide_eq_true (core_rev A), core_rev] at tx2
  rw [core_rev] at rC2
  rw [err_oth hf, proof_oth hf] at prO
  rw [err_oth hf] at leO
  rw [err_rev, core_rev] at leR
  have pf := fun lo st h => proofs_call (proof_fl (A := A)) (proof_fl (A := A)) (proof_fl (A := A)).len (lo := lo) (st := st) (h := h)
  simp only [eq_self, decide_true] at pf
  have rW : ∀ Y Z, reify E.P 8 [Y, Z, strE.row 9 ((coreO A).2.map f)] (Enc.sl 2 ((coreO A).2.map f)) = some (strE.o (some false) ((coreO A).2.map f)) := fun Y Z => Enc.reify_sl (O := strE) (t := 9) rfl sStr aStr
  have bA : ∀ d m, below (d + 1) m (listE.o (some false) A) = true := fun d m => Enc.o_bel
  have bO : ∀ d m, below (d + 1) m (strE.o (coreO A).1 (coreO A).2) = true := fun d m => Enc.o_bel
  have bP : ∀ d m, below (d + 1) m (rowE.o (proofO A).1 (proofO A).2) = true := fun d m => Enc.o_bel
  have b0 : ∀ d (l : AL), below (d + 1) 2 (Enc.sl 0 l) = true := fun d l => Enc.sl_bel (by decide)
  have b1 : ∀ d (l : AL), below (d + 1) 2 (Enc.sl 1 l) = true := fun d l => Enc.sl_bel (by decide)
  have brow : ∀ m (l : AL), belowO m (listE.row 23 l) = true := fun m l => Enc.row_bel
  generalize (coreO (oth f A)).1 = kO at *
  generalize (coreO (oth f A)).2 = cO at *
  generalize (coreO A.reverse).1 = kR at *
  generalize hcf : (coreO A).2 = cf at *
  generalize (coreO A).1 = kf at *
  generalize strE.o kO cO = VCO at *
  generalize strE.o kR cf = VCR at *
  generalize strE.o kf cf = VO at *
  generalize rowE.o (proofO A).1 (proofO A).2 = VP at *
  generalize errV A = ev at *
  generalize listE.o (some false) A = VA at *
  simp -implicitDefEqProofs [r7, p7, sm, fw, le, pr, lu, byt, prep_new, hnL]
  show LwG _
  rw [LL_for (γ := Unit) A () (fun i _ => [(11, Enc.sl 0 (oth f (A.take i))), (12, Enc.sl 1 (A.reverse.take i)), (13, .int .i64 (i : Int))]) (fun i _ => [listE.row 23 (oth f (A.take i)), listE.row 23 (A.reverse.take i)])
    (fun _ _ _ => (.exit 0, [(11, Enc.sl 0 (oth f A)), (12, Enc.sl 1 A.reverse), (13, undef)], [listE.row 23 (oth f A), listE.row 23 A.reverse])) (fun _ _ => True) (by omega) trivial]
  rotate_left
  · simp -implicitDefEqProofs [k7_10]; rfl
  · rfl
  · intro nx i c hi _
    subst hi
    have e1 : A.reverse.take A.length = A.reverse := by rw [← List.length_reverse, List.take_length]
    rw [e1, List.take_length]
    simp -implicitDefEqProofs [r7_10, k7_10, lA, trim_le]
  · intro nx i v rest c hi hv hd hw _ ih
    have ih := ih () trivial
    have hi2 : ((i : Int) < (A.length : Int)) := by omega
    have x1 := iA i hi
    rw [hv] at x1
    have hvA : v ∈ A := by rw [← hv]; exact List.getElem_mem hi
    obtain ⟨hv14, hv40⟩ := hsm v hvA
    have hvo := hA v hvA
    have lv : ∀ H, lenT .sl H (strE.o v.1 v.2) = some (.int .i64 v.2.length) := fun H => Enc.o_len hvo
    have iv : ∀ (j : Nat) (hj : j < v.2.length), indexAddrT (.sl 9 ⟨some false, some 1⟩) (strE.o v.1 v.2) (.int .i64 (j : Int)) = some (cptr (.string v.2[j])) := fun j hj => Enc.index_o hvo hj
    have le1 := leE v
    have hr : A.length - 1 - i < A.length := by omega
    obtain ⟨u, hu⟩ : ∃ u, u = A[A.length - 1 - i] := ⟨_, rfl⟩
    have x2 := iA _ hr
    rw [← hu] at x2
    have le2 := leE u
    have et : A.take (i + 1) = A.take i ++ [v] := by rw [List.take_succ_eq_append_getElem hi, hv]
    have er : A.reverse.take (i + 1) = A.reverse.take i ++ [u] := by
      rw [List.take_succ_eq_append_getElem (by rw [List.length_reverse]; exact hi), List.getElem_reverse, hu]
    have w1 : IntKind.i64.wrap ((A.length : Int) - 1) = (A.length : Int) - 1 := wrap64 (by omega) (by omega)
    have w2 : IntKind.i64.wrap ((A.length : Int) - 1 - (i : Int)) = ((A.length - 1 - i : Nat) : Int) := (wrap64 (by omega) (by omega)).trans (by omega)
    have hP : (oth f (A.take i)).length ≤ 10 := by rw [oth_len, List.length_take]; omega
    have hB : (A.reverse.take i).length ≤ 10 := by rw [List.length_take]; omega
    have ec : (((i + 1 : Nat) : Int)) = (i : Int) + 1 := by omega
    rw [et, er, oth_app, ec] at ih
    generalize ((A.length - 1 - i : Nat) : Int) = ri at *
    generalize oth f (A.take i) = P at *
    generalize A.reverse.take i = B at *
    have ap0 : ∀ Y X, appendT (some elList) [listE.row 23 P, listE.row 23 B, Y] 0 false (Enc.sl 0 P) (lst true (listE.vals [(some false, X)])) = some (Enc.sl 0 (P ++ [(some false, X)]), [listE.row 23 (P ++ [(some false, X)]), listE.row 23 B, Y]) := fun Y X =>
      Enc.app (O := listE) (el := elList) (lo := 0) (m := [(some false, X)]) (h := [listE.row 23 P, listE.row 23 B, Y]) (b := 0) (t := 23) (l := P) rfl rfl (Enc.cells_tree (O := listE) (x := true)) (Nat.zero_le _) (by show (P.length + 1) * 24 ≤ _; omega)
    have ap1 : ∀ Y Q, appendT (some elList) [Q, listE.row 23 B, Y] 0 false (Enc.sl 1 B) (lst true (listE.vals [u])) = some (Enc.sl 1 (B ++ [u]), [Q, listE.row 23 (B ++ [u]), Y]) := fun Y Q =>
      Enc.app (O := listE) (el := elList) (lo := 0) (m := [u]) (h := [Q, listE.row 23 B, Y]) (b := 1) (t := 23) (l := B) rfl rfl (Enc.cells_tree (O := listE) (x := true)) (Nat.zero_le _) (by show (B.length + 1) * 24 ≤ _; omega)
    have lt1 : ∀ H X, buildSliceT (some elList) false H 1 #[(0, strE.o (some false) X)] = some (lst true (listE.vals [(some false, X)]), H) := fun H X => litL1 H (some false) X
    have lt2 : ∀ H, buildSliceT (some elList) false H 1 #[(0, strE.o u.1 u.2)] = some (lst true (listE.vals [u]), H) := fun H => litL1 H u.1 u.2
    simp -implicitDefEqProofs [k7_10] at ih
    simp -implicitDefEqProofs [r7_10, k7_10, lA, hi2, prep_new, hnS]
    rw [LL_for (γ := Unit) v.2 () (fun j _ => [(14, Enc.sl 2 ((v.2.take j).map f)), (15, .int .i64 (j : Int))]) (fun j _ => [listE.row 23 P, listE.row 23 B, strE.row 9 ((v.2.take j).map f)])
      (fun _ _ _ => (.exit 2, [(14, Enc.sl 2 (v.2.map f)), (15, undef)], [listE.row 23 P, listE.row 23 B, strE.row 9 (v.2.map f)])) (fun _ _ => True) (by omega) trivial]
    rotate_left
    · simp -implicitDefEqProofs [k7_14]; rfl
    · rfl
    · intro nx2 j c2 hj _
      subst hj
      rw [List.take_length]
      simp -implicitDefEqProofs [r7_14, k7_14, x1, le1, lv, trim_le]
    · intro nx2 j s rest2 c2 hj hs hd2 hw2 _ ih2
      have ih2 := ih2 () trivial
      have hj2 : ((j : Int) < (v.2.length : Int)) := by omega
      have z1 := iv j hj
      rw [hs] at z1
      have cs := cat 9 s (hv40 s (by rw [← hs]; exact List.getElem_mem hj))
      have ej : (v.2.take (j + 1)).map f = (v.2.take j).map f ++ [f s] := by rw [List.take_succ_eq_append_getElem hj, hs, List.map_append]; rfl
      have hXl : ((v.2.take j).map f).length ≤ 14 := by rw [List.length_map, List.length_take]; omega
      have e3 : (((j + 1 : Nat) : Int)) = (j : Int) + 1 := by omega
      rw [ej, e3] at ih2
      generalize (v.2.take j).map f = X at *
      have li1 : ∀ H, buildSliceT (some elStr) false H 1 #[(0, .string (f s))] = some (lst true (strE.vals [f s]), H) := fun H => Enc.lit (O := strE) (f s) rfl rfl rfl
      have apS : appendT (some elStr) [listE.row 23 P, listE.row 23 B, strE.row 9 X] 0 false (Enc.sl 2 X) (lst true (strE.vals [f s])) = some (Enc.sl 2 (X ++ [f s]), [listE.row 23 P, listE.row 23 B, strE.row 9 (X ++ [f s])]) :=
        Enc.app (O := strE) (el := elStr) (lo := 0) (m := [f s]) (h := [listE.row 23 P, listE.row 23 B, strE.row 9 X]) (b := 2) (t := 9) (l := X) rfl rfl (Enc.cells_tree (O := strE) (x := true)) (Nat.zero_le _) (by show (X.length + 1) * 16 ≤ _; omega)
      simp -implicitDefEqProofs [k7_14] at ih2
      simp -implicitDefEqProofs [r7_14, k7_14, x1, le1, lv, hj2, z1, cs, li1, apS, hw2, trim_le, ih2]
    obtain ⟨Y, fz⟩ := frz_at2 (Y := listE.row 23 P) (Z := listE.row 23 B) (X := v.2.map f)
    have lt1 := fun H => lt1 H (v.2.map f)
    have ap0 := ap0 Y (v.2.map f)
    have ap1 := ap1 Y (listE.row 23 (P ++ [(some false, v.2.map f)]))
    generalize v.2.map f = X at *
    generalize strE.o (some false) X = VX at *
    generalize strE.o u.1 u.2 = VU at *
    simp -implicitDefEqProofs [k7_14, prep_frz, fz, lt1, lt2, ap0, ap1, lA, w1, w2, x2, le2, hw, trim_cut, bA, bO, bP, b0, b1, brow, ih, -List.all_eq_true]
  simp -implicitDefEqProofs [k7_10, prep_new, hnS]
  rw [LL_for (γ := Unit) cf () (fun j _ => [(16, Enc.sl 2 ((cf.take j).map f)), (17, .int .i64 (j : Int))]) (fun j _ => [listE.row 23 (oth f A), listE.row 23 A.reverse, strE.row 9 ((cf.take j).map f)])
    (fun _ _ _ => (.exit 4, [(16, Enc.sl 2 (cf.map f)), (17, undef)], [listE.row 23 (oth f A), listE.row 23 A.reverse, strE.row 9 (cf.map f)])) (fun _ _ => True) (by omega) trivial]
  rotate_left
  · simp -implicitDefEqProofs [k7_21]; rfl
  · rfl
  · intro nx2 j c2 hj _
    subst hj
    rw [List.take_length]
    simp -implicitDefEqProofs [r7_21, k7_21, lO, trim_le]
  · intro nx2 j s rest2 c2 hj hs hd2 hw2 _ ih2
    have ih2 := ih2 () trivial
    have hj2 : ((j : Int) < (cf.length : Int)) := by omega
    have z1 := iO j hj
    rw [hs] at z1
    have cs := cat 9 s (hc40 s (by rw [← hs]; exact List.getElem_mem hj))
    have ej : (cf.take (j + 1)).map f = (cf.take j).map f ++ [f s] := by rw [List.take_succ_eq_append_getElem hj, hs, List.map_append]; rfl
    have hXl : ((cf.take j).map f).length ≤ 8 := by rw [List.length_map, List.length_take]; omega
    have e3 : (((j + 1 : Nat) : Int)) = (j : Int) + 1 := by omega
    rw [ej, e3] at ih2
    generalize (cf.take j).map f = X at *
    generalize listE.row 23 (oth f A) = R0 at *
    generalize listE.row 23 A.reverse = R1 at *
    have li1 : ∀ H, buildSliceT (some elStr) false H 1 #[(0, .string (f s))] = some (lst true (strE.vals [f s]), H) := fun H => Enc.lit (O := strE) (f s) rfl rfl rfl
    have apS : appendT (some elStr) [R0, R1, strE.row 9 X] 0 false (Enc.sl 2 X) (lst true (strE.vals [f s])) = some (Enc.sl 2 (X ++ [f s]), [R0, R1, strE.row 9 (X ++ [f s])]) :=
      Enc.app (O := strE) (el := elStr) (lo := 0) (m := [f s]) (h := [R0, R1, strE.row 9 X]) (b := 2) (t := 9) (l := X) rfl rfl (Enc.cells_tree (O := strE) (x := true)) (Nat.zero_le _) (by show (X.length + 1) * 16 ≤ _; omega)
    simp -implicitDefEqProofs [k7_21] at ih2
    simp -implicitDefEqProofs [r7_21, k7_21, lO, hj2, z1, cs, li1, apS, hw2, trim_le, ih2]
  obtain ⟨Y0, fz0⟩ := frz_at (Y := listE.row 23 A.reverse) (Z := strE.row 9 (cf.map f)) (O := oth f A)
  obtain ⟨Y1, fz1⟩ := frz_at1 (Y := Y0) (Z := strE.row 9 (cf.map f)) (O := A.reverse)
  have rW := rW Y0 Y1
  refine ⟨[Y0, Y1, strE.row 9 (cf.map f)], ?_⟩
  generalize cf.map f = W at *
  generalize hH : [Y0, Y1, strE.row 9 W] = HH at *
  generalize listE.o (some false) (oth f A) = VB at *
  generalize listE.o (some false) A.reverse = VR at *
  generalize strE.o (some false) W = VW at *
  simp -implicitDefEqProofs [k7_21, prep_frz, fz0, fz1, leO, prO, leR, ret0 m15, rC1, rC2, rC3, rW, tx1, tx2, pf]
end Go.Proofs.YtgefjhjmkejjbaaDoor.Bm
