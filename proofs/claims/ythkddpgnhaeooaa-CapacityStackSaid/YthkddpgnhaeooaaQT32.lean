/-
 Chapter 25: the statement on floors that are a solid, walked. Conditions: none but the sizes of what fits in memory.
-/
import Derived.Test.YthkddpgnhaeooaaQT28
import Derived.Test.YthkddpgnhaeooaaQT29
import Derived.Test.YthkddpgnhaeooaaQT31
namespace Go.Proofs.Ythkddpgnhaeooaa.Bm
open Go Go.RowKit
open Rg (Rect Lv Bx floorsL stackB areaL atL volL)
open Cp (Q Br prQ validQ best)
theorem choice_told {q : Q} (hv : validQ q = true) {A : List Int} (hA : ∀ a ∈ A, 1 ≤ a) {v : Int} {b : List Int} {t : List Br} (h : best (prQ q) A = some (v, b, t)) : b.length ≤ A.length ∧ v = (A.take b.length).sum := by
 obtain ⟨⟨s, h1, h2⟩, _⟩ := Cp.best_told Cp.may_us (fun a ha => by have := hA a ha; omega) (Cp.validQ_iff.1 hv).2.2.1 h
 obtain ⟨_, h3, h4⟩ := Cp.run_rem h1
 change s.v = 0 + (A.take b.length).sum at h3
 change s.rem.length + b.length = A.length at h4
 exact ⟨by omega, by omega⟩
theorem take_while {α : Type} (p : α → Bool) : ∀ (l : List α) (n : Nat), n ≤ (l.takeWhile p).length → (l.takeWhile p).take n = l.take n
 | [], n, _ => by simp
 | a :: l, 0, _ => by simp
 | a :: l, n + 1, h => by
  rw [List.takeWhile_cons] at h ⊢
  cases hp : p a
  ·rw [hp] at h; simp at h
  ·rw [hp] at h
   simp only [if_true, List.length_cons] at h ⊢
   rw [List.take_succ_cons, List.take_succ_cons, take_while p l n (by omega)]
theorem rooms_take {L : List (List Rect)} {A : List Int} (hA : areasF L = some A) {K : Nat} (hK : K ≤ A.length) : A.take K = (L.take K).map areaL ∧ (∀ R ∈ L.take K, R ≠ []) ∧ (∀ R ∈ L.take K, regB R = true) ∧ (L.take K).length = K := by
 unfold areasF at hA
 by_cases q : L.length ≤ 12 ∧ L.all regB = true
 ·rw [if_pos q, Option.some.injEq] at hA
  subst hA
  have e := take_while (fun a : Int => decide (a ≠ 0)) (L.map areaL) K hK
  have hl : K ≤ L.length := by
   have := (List.takeWhile_sublist (fun a : Int => decide (a ≠ 0)) (l := L.map areaL)).length_le
   rw [List.length_map] at this
   omega
  rw [e, ← List.map_take]
  refine ⟨rfl, fun R hR h0 => ?_, fun R hR => List.all_eq_true.1 q.2 R (List.mem_of_mem_take hR), by rw [List.length_take]; omega⟩
  have hm : areaL R ∈ (L.map areaL).take K := by rw [← List.map_take]; exact List.mem_map_of_mem hR
  rw [← e] at hm
  have h1 := List.mem_of_mem_take hm
  have h2 := List.all_eq_true.1 (List.all_takeWhile (p := fun a : Int => decide (a ≠ 0)) (l := L.map areaL)) _ h1
  rw [h0] at h2
  exact absurd h2 (by decide)
 ·rw [if_neg q] at hA; cases hA
noncomputable def shrP (a : List Rect) : Nat → Nat → Bool × List (List Rect)
 | 0, _ => (true, [])
 | n + 1, i => match shrinkX a i with
  | .ok c => ((shrP a n (i + 1)).1, c :: (shrP a n (i + 1)).2)
  | .error _ => (false, [])
theorem shrP_reg {a : List Rect} (ha : regB a = true) : ∀ (n i : Nat), i + n ≤ 5 → (∀ R ∈ (shrP a n i).2, regB R = true) ∧ ((shrP a n i).1 = true → (shrP a n i).2.length = n)
 | 0, i, _ => ⟨fun R h => (by cases h), fun _ => rfl⟩
 | n + 1, i, h => by
  have ih := shrP_reg ha n (i + 1) (by omega)
  unfold shrP
  rcases shrink_cases ha (show (0 : Int) ≤ (i : Int) by omega) (by omega) with q | ⟨c, q, hc, _⟩
  ·rw [q]
   exact ⟨fun R h => (by cases h), fun h => (by cases h)⟩
  ·rw [q]
   refine ⟨fun R hR => ?_, fun h => by simp only [List.length_cons]; rw [ih.2 h]⟩
   rcases List.mem_cons.1 hR with e | e
   ·rw [e]; exact hc
   ·exact ih.1 R e
def rmL (l : List (List Rect)) : Rooms := l.map fun R => (some false, R)
theorem rm_lists (l : List (List Rect)) : lists (rmL l) = l := by
 unfold lists rmL
 rw [List.map_map]
 exact List.map_id l
theorem rmL_len (l : List (List Rect)) : (rmL l).length = l.length := List.length_map _
theorem rm_get {l : List (List Rect)} {j : Nat} (h : j < (rmL l).length) (h2 : j < l.length) : (rmL l)[j] = (some false, l[j]) := List.getElem_map ..
theorem sRm : szOf E.P 22 = some 1 := by kernel_rfl
theorem aRm : aggT E.P 22 = some false := by kernel_rfl
theorem ex_fst {X : Res} {v : Value} (h : X.map Prod.fst = some v) : ∃ h', X = some (v, h') := by
 cases X with
 | none => cases h
 | some r =>
  obtain ⟨a, b⟩ := r
  have : a = v := Option.some.inj h
  exact ⟨b, by rw [this]⟩
theorem rm_app {h : Heap} {b : Nat} {c : List (List Rect)} (R : List Rect) (hob : h[b]? = some (roomE.row 22 (rmL c))) (hc : c.length ≤ 1000) :
  appendT (some ⟨22, 1, 24, .slice none 0 0, ⟨some false, some 1⟩⟩) h 0 false (Enc.sl b (rmL c)) (lst true [lst false (rectR.vals R)]) = some (Enc.sl b (rmL (c ++ [R])), h.set b (roomE.row 22 (rmL (c ++ [R])))) := by
 have key := Enc.app (O := roomE) (el := ⟨22, 1, 24, .slice none 0 0, ⟨some false, some 1⟩⟩) (h := h) (b := b) (lo := 0) (t := 22) (l := rmL c) (m := [(some false, R)]) (u := lst true [lst false (rectR.vals R)]) rfl hob (Enc.cells_tree (O := roomE) (l := [(some false, R)])) (Nat.zero_le _) (by rw [rmL_len]; show (c.length + 1) * 24 ≤ 2 ^ 47; omega)
 have e : rmL (c ++ [R]) = rmL c ++ [(some false, R)] := by unfold rmL; rw [List.map_append]; rfl
 rw [e]
 exact key
theorem sum_le (M : Int) : ∀ l : List Int, (∀ a ∈ l, 1 ≤ a ∧ a ≤ M) → 0 ≤ l.sum ∧ l.sum ≤ l.length * M
 | [], _ => ⟨Int.le_refl _, by simp⟩
 | a :: l, h => by
  have h1 := h a (List.mem_cons_self ..)
  have ih := sum_le M l fun b hb => h b (List.mem_cons_of_mem _ hb)
  rw [List.sum_cons, List.length_cons]
  push_cast
  rw [Int.add_mul]
  omega
theorem stack_len : ∀ (Rs : List (List Rect)) (i n : Nat), (∀ R ∈ Rs, R.length ≤ n) → (stackB i Rs).length ≤ n * Rs.length
 | [], _, _, _ => by simp [stackB]
 | R :: Rs, i, n, h => by
  have h1 := h R (List.mem_cons_self ..)
  have ih := stack_len Rs (i + 1) n fun S hS => h S (List.mem_cons_of_mem _ hS)
  unfold stackB
  rw [List.length_append, List.length_map, List.length_cons, Nat.mul_add]
  omega
structure PbArgs (p : Pb) : Prop where
 kl : Rec.Ok p.kl p.left
 kn : Rec.Ok p.kn p.never
 u : -9223372036854775808 ≤ p.uses ∧ p.uses ≤ 9223372036854775807
 m : -9223372036854775808 ≤ p.most ∧ p.most ≤ 9223372036854775807
set_option maxHeartbeats 4000000 in
set_option maxRecDepth 20000 in
theorem stack_law (a : List Rect) (p : Pb) (hp : PbArgs p) : ∃ h', L E 3 [lst false (rectR.vals a), p.val] [] 0 = some (.bool true, h') := by
 refine ex_fst ?_
 have sm := small25_spec
 have pe : p.val = .agg ⟨p.cells⟩ := rfl
 have la : ∀ h, lenT .sl h (lst false (rectR.vals a)) = some (.int .i64 a.length) := fun h => Rec.tree_len
 have ro : ∀ h, reify E.P 8 h (lst false (rectR.vals a)) = some (lst false (rectR.vals a)) := fun h => rfl
 have sa : settled depth (lst false (rectR.vals a)) = true := rfl
 have sI : ∀ z, settled depth (.int .i64 z) = true := fun _ => rfl
 have pa := pb_all p
 have rcp : ∀ h, reifyC E.P 7 h p.cells = some p.cells := fun h => reifyC_set pa
 have ps : settled depth (.agg ⟨p.cells⟩) = true := p.set
 obtain ⟨PB, hPB⟩ : ∃ PB, PB = AObj.cells 26 p.cells 0 := ⟨_, rfl⟩
 have lp : ∀ t, loadT ⟨some true, some 4⟩ (PB :: t) (.pointer (some ⟨0, 0, none⟩)) = some (.agg ⟨p.cells⟩) := fun t => by rw [hPB]; exact obj_all (b := 0) rfl rfl
 rw [L_fn F3 rfl, pe]
 by_cases g1 : 16 < a.length
 ·have g1' : 16 < (a.length : Int) := by omega
  generalize lst false (rectR.vals a) = VA at *
  simp -implicitDefEqProofs [r3, p3, ret0 m4, sm, la, g1']
 have g1' : ¬ 16 < (a.length : Int) := by omega
 have qa : pureCall E.P (L E) 5 [lst false (rectR.vals a)] = some (.bool (regB a)) := rright2_spec (some false) a Rec.ok_some (by omega)
 cases ra : regB a
 ·rw [ra] at qa
  generalize lst false (rectR.vals a) = VA at *
  simp -implicitDefEqProofs [r3, p3, ret0 m4, sm, la, g1', ret0 m5, ro, qa]
 rw [ra] at qa
 have shr : ∀ i : Nat, i < 5 → pureCall E.P (L E) 6 [lst false (rectR.vals a), .int .i64 (i : Int)] = some (resL (shrinkX a i)) := fun i _ => shrink_spec (some false) a i Rec.ok_some (by omega)
 generalize hVA : lst false (rectR.vals a) = VA at *
 have hnew := fun (h : Heap) (σ : Slots) (s : Nat) => newK_nil (P := E.P) (t := 22) (h := h) (σ := σ) (s := s) (n := 0) sRm
 simp -implicitDefEqProofs [r3, p3, ret0 m4, sm, la, g1', ret0 m5, ro, qa, prep_new, hnew]
 rw [← hPB]
 rw [LL_for (γ := List (List Rect)) (List.replicate 5 ()) [] (fun i c => [(6, Enc.sl 1 (rmL c)), (7, .int .i64 (i : Int))]) (fun _ c => [PB, roomE.row 22 (rmL c)])
  (fun i rest c => if (shrP a rest.length i).1 = true then (.exit 0, [(6, Enc.sl 1 (rmL (c ++ (shrP a rest.length i).2))), (7, undef)], [PB, roomE.row 22 (rmL (c ++ (shrP a rest.length i).2))]) else (.ret, [(4, .bool true), (6, Enc.sl 1 (rmL (c ++ (shrP a rest.length i).2))), (7, undef)], [PB, roomE.row 22 (rmL (c ++ (shrP a rest.length i).2))])) (fun i c => c.length = i) (by decide) rfl]
 ·rw [List.nil_append, show (List.replicate 5 ()).length = 5 from rfl]
  obtain ⟨hreg, hlen⟩ := shrP_reg ra 5 0 (by decide)
  generalize shrP a 5 0 = Q at *
  obtain ⟨g, LR⟩ := Q
  simp only at hreg hlen ⊢
  cases g
  ·simp -implicitDefEqProofs [k3_6]
  have hL : LR.length = 5 := hlen rfl
  have hok : ∀ r ∈ rmL LR, Rec.Ok r.1 r.2 := fun r hr => by
   obtain ⟨R, _, rfl⟩ := List.mem_map.1 hr
   exact Rec.ok_some
  have fw := few_spec false (rmL LR) p hp.kl hp.kn hok (by rw [rmL_len, hL]; decide)
  rw [pe] at fw
  have hfz := Enc.frz_sl (O := roomE) (P := E.P) (h := [PB, roomE.row 22 (rmL LR)]) (b := 1) (lo := 0) (t := 22) (l := rmL LR) rfl sRm aRm (Nat.zero_le _)
  rw [if_neg (show ¬ (rmL LR).length = 0 by rw [rmL_len, hL]; decide)] at hfz
  change _ = some (roomsV false (rmL LR), [PB, .dead]) at hfz
  have rr : ∀ h, reify E.P 8 h (roomsV false (rmL LR)) = some (roomsV false (rmL LR)) := fun h => by unfold roomsV; rfl
  have sr : settled depth (roomsV false (rmL LR)) = true := rfl
  have lnR := fun h => rooms_len h false (rmL LR)
  rw [rmL_len, hL] at lnR
  cases hF : ((rmL LR).all (fun r => decide (r.2.length ≤ 16)) && (decide ((rmL LR).length ≤ 13) && (decide (p.left.length ≤ 40) && decide (p.never.length ≤ 40))))
  ·rw [hF] at fw
   generalize roomsV false (rmL LR) = VR at *
   generalize Enc.sl 1 (rmL LR) = V0 at *
   simp -implicitDefEqProofs [k3_6, prep_frz, hfz, ret0 m7, rr, lp, rcp, fw]
  rw [hF] at fw
  simp only [Bool.and_eq_true, decide_eq_true_eq, List.all_eq_true] at hF
  obtain ⟨hF1, _, hF3, hF4⟩ := hF
  have hpo : PbOk p := ⟨hp.kl, hp.kn, hp.u, hp.m, hF3, hF4⟩
  have hPo : RoomsOk (rmL LR) := ⟨hok, fun r hr => by have := hF1 r hr; omega, by rw [rmL_len, hL]; decide⟩
  have h16 : ∀ R ∈ LR, R.length ≤ 16 := fun R hR => hF1 (some false, R) (List.mem_map.2 ⟨R, hR, rfl⟩)
  obtain ⟨A, hA⟩ : ∃ A, areasF (lists (rmL LR)) = some A := by
   rw [rm_lists]
   exact ⟨_, if_pos ⟨by rw [hL]; decide, List.all_eq_true.2 hreg⟩⟩
  have rv : pureCall E.P (L E) 9 [.agg ⟨p.cells⟩] = some (.bool (validQ p.q)) := rvalid_spec p hpo
  cases hv : validQ p.q
  ·have bb := best_bad false (rmL LR) hPo p hpo (.inr hv)
   rw [pe] at bb
   rw [hv] at rv
   generalize roomsV false (rmL LR) = VR at *
   generalize Enc.sl 1 (rmL LR) = V0 at *
   simp -implicitDefEqProofs [k3_6, prep_frz, hfz, ret0 m7, rr, lp, rcp, fw, ret1 m8, sr, ps, bb, ret0 m9, rv]
  obtain ⟨kb, hkb, bb⟩ := best_ok false (rmL LR) hPo p hpo A hA hv
  rw [pe] at bb
  cases hb : best (prQ p.q) A with
  | none =>
   rw [hb] at bb
   unfold bestV at bb
   simp only at bb
   generalize roomsV false (rmL LR) = VR at *
   generalize Enc.sl 1 (rmL LR) = V0 at *
   simp -implicitDefEqProofs [k3_6, prep_frz, hfz, ret0 m7, rr, lp, rcp, fw, ret1 m8, sr, ps, bb]
  | some r =>
   obtain ⟨v, b, t⟩ := r
   have hkb : Enc.Ok kb b := hkb _ hb
   rw [hb] at bb
   unfold bestV at bb
   simp only at bb
   obtain ⟨hbl, hval⟩ := choice_told hv (fun a ha => ((areas_told hA).2 a ha).1) hb
   have hA' : areasF LR = some A := by rw [← hA, rm_lists]
   obtain ⟨t1, t2, t3, t4⟩ := rooms_take hA' hbl
   have hvs := sum_le 1099511627776 (A.take b.length) fun a ha => (areas_told hA).2 a (List.mem_of_mem_take ha)
   rw [← hval] at hvs
   have hK5 : b.length ≤ 5 := by
    have := List.length_take_le b.length LR
    rw [List.length_take] at t4
    omega
   have hv5 : v ≤ 5 * 1099511627776 := by
    have := List.length_take_le b.length A
    omega
   have hv0 : 0 ≤ v := hvs.1
   clear hvs
   have lc : ∀ h, lenT .sl h (intE.o kb b) = some (.int .i64 b.length) := fun h => Enc.o_len hkb
   have hK' : ¬ (5 : Int) < (b.length : Int) := by omega
   have hRg : ∀ R ∈ LR.take b.length, R.length ≤ 16 := fun R hR => h16 R (List.mem_of_mem_take hR)
   have iR : ∀ (j : Nat) (hj : j < (LR.take b.length).length), indexAddrT (.sl 22 ⟨some false, some 1⟩) (roomsV false (rmL LR)) (.int .i64 (j : Int)) = some (cptr (lst false (rectR.vals (LR.take b.length)[j]))) := fun j hj => by
    have hj2 : j < (rmL LR).length := by rw [rmL_len]; rw [List.length_take] at hj; omega
    have key := rooms_index false (rmL LR) j hj2
    have e : (rmL LR)[j] = (some false, (LR.take b.length)[j]) := by
     rw [rm_get hj2 (by rw [rmL_len] at hj2; exact hj2), List.getElem_take]
    rw [e] at key
    exact key
   have fR : ∀ R : List Rect, fitsTT ⟨some false, some 1⟩ (lst false (rectR.vals R)) = true := fun R => rfl
   have hsL := stack_len (LR.take b.length) 0 16 hRg
   have hsol := solid_spec false (stackB 0 (LR.take b.length)) (by omega)
   rw [solidX_stack t3 t2 (by omega) (by omega)] at hsol
   have hFr := floors_right t3 t2 (show (LR.take b.length).length ≤ 80 by omega)
   have hFs := floors_sec t3 t2 (show (LR.take b.length).length ≤ 80 by omega)
   have hFv := floors_volX t3 t2 (show (LR.take b.length).length ≤ 80 by omega)
   rw [← t1, ← hval] at hFv
   obtain ⟨F80, Frun⟩ := right_run hFr
   have Far : ∀ y ∈ floorsL [] 0 (LR.take b.length), y.ar.length ≤ 1000000 := fun y hy => by have := (run_reg Frun y hy).1; omega
   have hsec : ∀ (j : Nat) (hj : j < (LR.take b.length).length), pureCall E.P (L E) 12 [lst false (lvR.vals (floorsL [] 0 (LR.take b.length))), .int .i64 (3 * (j : Int) + 1)] = some (lst false (rectR.vals (LR.take b.length)[j])) := fun j hj => by
    have e := hFs j hj
    unfold secX at e
    rw [hFr, if_pos rfl] at e
    have key := section_sol _ (3 * (j : Int) + 1) Far (by omega) hFr (by rw [e]; exact t2 _ (List.getElem_mem hj))
    rw [e] at key
    exact key
   have hvol := volume_sol _ hFr
   rw [hFv] at hvol
   unfold slV at hsol
   simp only at hsol
   have sS : settled depth (lst false (lvR.vals (floorsL [] 0 (LR.take b.length)))) = true := rfl
   have rS : ∀ h, reify E.P 8 h (lst false (lvR.vals (floorsL [] 0 (LR.take b.length)))) = some (lst false (lvR.vals (floorsL [] 0 (LR.take b.length)))) := fun h => rfl
   have h16' : ∀ R ∈ LR.take b.length, R.length ≤ 16 := hRg
   clear hRg
   clear hFs hFv Far Frun hFr F80 hsL t1 t2 t3 hpo hPo h16 hF1
   clear hA hA' hval hb hbl rv
   generalize lst false (lvR.vals (floorsL [] 0 (LR.take b.length))) = VS at *
   generalize LR.take b.length = Rs at *
   generalize roomsV false (rmL LR) = VR at *
   generalize Enc.sl 1 (rmL LR) = V0 at *
   generalize intE.o kb b = VB at *
   have hnB := fun (h : Heap) (σ : Slots) (s : Nat) => newK_nil (P := E.P) (t := 43) (h := h) (σ := σ) (s := s) (n := 5) sBx
   simp -implicitDefEqProofs [k3_6, prep_frz, hfz, ret0 m7, rr, lp, rcp, fw, ret1 m8, sr, ps, bb, lc, lnR, hK', prep_new, hnB]
   generalize lst false (brR.vals t) = VT at *
   clear hfz bb hkb fw shr
   rw [LL_for (γ := List Bx) Rs [] (fun i c => [(14, bxR.sl 2 c), (15, .int .i64 (i : Int))]) (fun _ c => [PB, .dead, bxR.row 43 c])
    (fun i rest c => (.exit 2, [(14, bxR.sl 2 (c ++ stackB i rest)), (15, undef)], [PB, .dead, bxR.row 43 (c ++ stackB i rest)])) (fun i c => c.length ≤ 16 * i) (by omega) (Nat.le_refl _)]
   ·rw [List.nil_append]
    generalize stackB 0 Rs = BL at *
    have fz3 := Rec.freeze_row (R := bxR) (P := E.P) (h := [PB, .dead, bxR.row 43 BL]) (lo := 0) (b := 2) (t := 43) (l := BL) rfl sBx aBx (Nat.zero_le _)
    obtain ⟨X, hX⟩ : ∃ X, (if BL.length = 0 then [PB, .dead, bxR.row 43 BL] else [PB, .dead, bxR.row 43 BL].set 2 .dead) = [PB, .dead, X] := by
     by_cases q : BL.length = 0
     ·exact ⟨_, if_pos q⟩
     ·exact ⟨.dead, if_neg q⟩
    rw [hX] at fz3
    have sBL : settled depth (lst false (bxR.vals BL)) = true := rfl
    clear hX
    generalize lst false (bxR.vals BL) = VBL at *
    simp -implicitDefEqProofs [k3_21, prep_frz, fz3, ret1 m10, sBL, hsol]
    rw [LL_for (γ := Unit) Rs () (fun i _ => [(19, .int .i64 (i : Int))]) (fun _ _ => [PB, .dead, X]) (fun _ _ _ => (.exit 6, [(19, undef)], [PB, .dead, X])) (fun _ _ => True) (by omega) trivial]
    ·have w3 : IntKind.i64.wrap (3 * v) = 3 * v := wrap64 (by omega) (by omega)
     simp -implicitDefEqProofs [k3_31, ret0 m13, rS, hvol, w3]
    ·simp -implicitDefEqProofs [k3_31]
    ·rfl
    ·intro nx i _ hi _
     have hi' : ¬ (i : Int) < (b.length : Int) := by omega
     simp -implicitDefEqProofs [r3_31, k3_31, lc, hi', trim_le]
    ·intro nx i R rest _ hi hv2 hd hw _ ih
     have hi' : (i : Int) < (b.length : Int) := by omega
     have se := hsec i hi
     have xi := iR i hi
     rw [hv2] at se xi
     have w1 : IntKind.i64.wrap (3 * (i : Int)) = 3 * (i : Int) := wrap64 (by omega) (by omega)
     have w2 : IntKind.i64.wrap (3 * (i : Int) + 1) = 3 * (i : Int) + 1 := wrap64 (by omega) (by omega)
     have hR6 : R.length ≤ 1000000 := Nat.le_trans (h16' R (by rw [← hv2]; exact List.getElem_mem hi)) (by decide)
     have sm2 := same_rects (some false) (some false) R R Rec.ok_some Rec.ok_some hR6
     rw [decide_eq_true rfl] at sm2
     change pureCall _ _ _ [lst false (rectR.vals R), lst false (rectR.vals R)] = _ at sm2
     have fRR := fR R
     have rR : ∀ h, reify E.P 8 h (lst false (rectR.vals R)) = some (lst false (rectR.vals R)) := fun h => rfl
     have ih := ih () trivial
     generalize lst false (rectR.vals R) = VRR at *
     simp -implicitDefEqProofs [k3_31] at ih
     simp -implicitDefEqProofs [r3_31, k3_31, lc, hi', w1, w2, ret1 m12, sS, sI, se, xi, fRR, ret0 m11, rR, sm2, hw, trim_le]
     exact ih
   ·simp -implicitDefEqProofs [k3_21, Rec.sl_nil]
   ·rfl
   ·intro nx i c hi _
    have hi' : ¬ (i : Int) < (b.length : Int) := by omega
    simp -implicitDefEqProofs [r3_21, k3_21, lc, hi', trim_le, stackB]
   ·intro nx i R rest c hi hv2 hd hw hc ih
    have hi' : (i : Int) < (b.length : Int) := by omega
    have xi := iR i hi
    rw [hv2] at xi
    have hR16 := h16' R (by rw [← hv2]; exact List.getElem_mem hi)
    have lR : ∀ h, lenT .sl h (lst false (rectR.vals R)) = some (.int .i64 R.length) := fun h => Rec.tree_len
    have jR : ∀ (j : Nat) (hj : j < R.length), indexAddrT (.sl 41 ⟨some true, some 4⟩) (lst false (rectR.vals R)) (.int .i64 (j : Int)) = some (cptr (rectR.val R[j])) := fun j hj => Rec.index_tree rfl hj
    have fRR := fR R
    have w1 : IntKind.i64.wrap (3 * (i : Int)) = 3 * (i : Int) := wrap64 (by omega) (by omega)
    have w2 : IntKind.i64.wrap (3 * (i : Int) + 3) = 3 * (i : Int) + 3 := wrap64 (by omega) (by omega)
    have wi : IntKind.i64.wrap ((i : Int) + 1) = (i : Int) + 1 := wrap64 (by omega) (by omega)
    have ih := ih (c ++ R.map fun r => (⟨r, 3 * (i : Int), 3 * (i : Int) + 3⟩ : Bx)) (by rw [List.length_append, List.length_map]; omega)
    rw [show stackB i (R :: rest) = (R.map fun r => (⟨r, 3 * (i : Int), 3 * (i : Int) + 3⟩ : Bx)) ++ stackB (i + 1) rest from rfl, ← List.append_assoc]
    push_cast at ih
    generalize stackB (i + 1) rest = TB at *
    generalize lst false (rectR.vals R) = VRR at *
    simp -implicitDefEqProofs [k3_21, -List.append_assoc] at ih
    simp -implicitDefEqProofs [r3_21, k3_21, lc, hi', -List.append_assoc]
    rw [LL_for (γ := List Bx) R c (fun j c => [(14, bxR.sl 2 c), (16, .int .i64 (j : Int))]) (fun _ c => [PB, .dead, bxR.row 43 c])
     (fun _ rest c => (.exit 4, [(14, bxR.sl 2 (c ++ rest.map fun r => (⟨r, 3 * (i : Int), 3 * (i : Int) + 3⟩ : Bx))), (16, undef)], [PB, .dead, bxR.row 43 (c ++ rest.map fun r => (⟨r, 3 * (i : Int), 3 * (i : Int) + 3⟩ : Bx))])) (fun j c' => c'.length = c.length + j) (by omega) rfl]
    ·simp -implicitDefEqProofs [k3_24, hw, wi, trim_le, -List.append_assoc]
     exact ih
    ·simp -implicitDefEqProofs [k3_24]
    ·rfl
    ·intro nx j c' hj _
     simp -implicitDefEqProofs [r3_24, k3_24, xi, fRR, lR, hj, trim_le]
    ·intro nx j r rest2 c' hj hv3 hd3 hw3 hc3 ih
     have hj' : (j : Int) < (R.length : Int) := by omega
     have xj := jR j hj
     rw [hv3, rect_val] at xj
     have wj : IntKind.i64.wrap ((j : Int) + 1) = (j : Int) + 1 := wrap64 (by omega) (by omega)
     have ap := app_bx (h := [PB, .dead, bxR.row 43 c']) (b := 2) (lo := 0) (c := c') ⟨r, 3 * (i : Int), 3 * (i : Int) + 3⟩ rfl (Nat.zero_le _) (by omega)
     change _ = some (_, [PB, .dead, bxR.row 43 (c' ++ [⟨r, 3 * (i : Int), 3 * (i : Int) + 3⟩])]) at ap
     have lb := fun h => lit_bx h ⟨r, 3 * (i : Int), 3 * (i : Int) + 3⟩
     simp only at ap lb
     have ih := ih (c' ++ [⟨r, 3 * (i : Int), 3 * (i : Int) + 3⟩]) (by simp; omega)
     rw [List.map_cons, show ∀ M : List Bx, c' ++ (⟨r, 3 * (i : Int), 3 * (i : Int) + 3⟩ : Bx) :: M = c' ++ [⟨r, 3 * (i : Int), 3 * (i : Int) + 3⟩] ++ M from fun M => by rw [List.append_assoc]; rfl]
     push_cast at ih
     simp -implicitDefEqProofs [k3_24, -List.append_assoc] at ih
     simp -implicitDefEqProofs [r3_24, k3_24, xi, fRR, lR, hj', hj, xj, w1, w2, b6_all, lb, ap, hw3, wj, trim_le, -List.append_assoc]
     exact ih
 ·simp -implicitDefEqProofs [k3_6]
  rfl
 ·rfl
 ·intro nx i c hi _
  rw [List.length_replicate] at hi
  subst hi
  simp -implicitDefEqProofs [r3_6, k3_6, trim_le, shrP]
 ·intro nx i u rest c hi hv hd hw hc ih
  rw [List.length_replicate] at hi
  have hrl : rest.length + (i + 1) = 5 := by
   have := congrArg List.length hd
   rw [List.length_drop, List.length_replicate, List.length_cons] at this
   omega
  have hs := shr i hi
  have hi' : (i : Int) < 5 := by omega
  have wi : IntKind.i64.wrap ((i : Int) + 1) = (i : Int) + 1 := wrap64 (by omega) (by omega)
  rw [show (u :: rest).length = rest.length + 1 from rfl]
  rcases shrink_cases ra (show (0 : Int) ≤ (i : Int) by omega) (by omega) with q | ⟨R, q, hR, _⟩
  ·have e : shrP a (rest.length + 1) i = (false, []) := by unfold shrP; rw [q]
   rw [e]
   rw [q] at hs
   unfold resL at hs
   simp only at hs
   simp -implicitDefEqProofs [r3_6, k3_6, hi', ret1 m6, sa, sI, hs, trim_le]
  ·have e : shrP a (rest.length + 1) i = ((shrP a rest.length (i + 1)).1, R :: (shrP a rest.length (i + 1)).2) := by
    show (match shrinkX a i with | .ok c => ((shrP a rest.length (i + 1)).1, c :: (shrP a rest.length (i + 1)).2) | .error _ => (false, [])) = _
    rw [q]
   rw [e]
   rw [q] at hs
   unfold resL at hs
   simp only at hs
   have ap := rm_app (h := [PB, roomE.row 22 (rmL c)]) (b := 1) (c := c) R rfl (by omega)
   change _ = some (_, [PB, roomE.row 22 (rmL (c ++ [R]))]) at ap
   have ll := fun h => lit_list1 h (some false) R
   change ∀ h, buildSliceT _ _ _ _ #[(0, lst false (rectR.vals R))] = some (lst true [lst false (rectR.vals R)], h) at ll
   have ih := ih (c ++ [R]) (by simp; omega)
   have ec : ∀ m : List (List Rect), c ++ R :: m = c ++ [R] ++ m := fun m => by rw [List.append_assoc]; rfl
   push_cast at ih
   generalize shrP a rest.length (i + 1) = Q at *
   obtain ⟨g, T⟩ := Q
   simp only at ih ⊢
   rw [ec T]
   generalize lst false (rectR.vals R) = VR at *
   generalize rmL (c ++ [R] ++ T) = RT at *
   generalize rmL (c ++ [R]) = R2 at *
   generalize rmL c = R1 at *
   cases g <;>
   ·simp -implicitDefEqProofs [k3_6] at ih
    simp -implicitDefEqProofs [r3_6, k3_6, hi', ret1 m6, sa, sI, hs, ll, ap, hw, wi, trim_le, -List.append_assoc]
    exact ih
end Go.Proofs.Ythkddpgnhaeooaa.Bm
