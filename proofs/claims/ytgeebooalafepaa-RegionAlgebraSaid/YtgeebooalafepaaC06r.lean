/-
  Chapter 06: the statement on the algebra of regions. Conditions: lists that are not too long.
-/
import Derived.Test.YtgeebooalafepaaC06p
namespace Go.Proofs.Ytgeebooalafepaa.Bm
open Go Go.RowKit
open Rg (Rect areaL cell bi sumN cntB cnt opL ofL norm Det cell_det)

/-! ### Calls on regions -/
def okT (l : List Rect) : Value := .tuple ⟨[lst false (rectR.vals l), .int .i64 0]⟩
theorem union_r {a b : List Rect} {S T : Int → Int → Bool} (ha : Reg a S) (hb : Reg b T) (R : List Rect) (hR : ∀ r ∈ R, r.x0 < r.x1) (hS : Det R S) (hT : Det R T) (hl : R.length ≤ 14) :
    ∃ u, pureCall E.P (L E) 15 [lst false (rectR.vals a), lst false (rectR.vals b)] = some (okT u) ∧ Reg u fun x y => orF (S x y) (T x y) := by
  obtain ⟨u, e, h⟩ := op_reg orF rfl ha hb R hR hS hT hl
  refine ⟨u, ?_, h⟩
  rw [union_l false false a b (by have := ha.len; omega) (by have := hb.len; omega), e]; rfl
theorem common_r {a b : List Rect} {S T : Int → Int → Bool} (ha : Reg a S) (hb : Reg b T) (R : List Rect) (hR : ∀ r ∈ R, r.x0 < r.x1) (hS : Det R S) (hT : Det R T) (hl : R.length ≤ 14) :
    ∃ u, pureCall E.P (L E) 16 [lst false (rectR.vals a), lst false (rectR.vals b)] = some (okT u) ∧ Reg u fun x y => andF (S x y) (T x y) := by
  obtain ⟨u, e, h⟩ := op_reg andF rfl ha hb R hR hS hT hl
  refine ⟨u, ?_, h⟩
  rw [common_l false false a b (by have := ha.len; omega) (by have := hb.len; omega), e]; rfl
theorem minus_r {a b : List Rect} {S T : Int → Int → Bool} (ha : Reg a S) (hb : Reg b T) (R : List Rect) (hR : ∀ r ∈ R, r.x0 < r.x1) (hS : Det R S) (hT : Det R T) (hl : R.length ≤ 14) :
    ∃ u, pureCall E.P (L E) 17 [lst false (rectR.vals a), lst false (rectR.vals b)] = some (okT u) ∧ Reg u fun x y => subF (S x y) (T x y) := by
  obtain ⟨u, e, h⟩ := op_reg subF rfl ha hb R hR hS hT hl
  refine ⟨u, ?_, h⟩
  rw [minus_l false false a b (by have := ha.len; omega) (by have := hb.len; omega), e]; rfl
theorem same_r {a b : List Rect} {S T : Int → Int → Bool} (ha : Reg a S) (hb : Reg b T) (h : ∀ x y, S x y = T x y) : pureCall E.P (L E) 12 [lst false (rectR.vals a), lst false (rectR.vals b)] = some (.bool true) := by
  rw [same_l false false a b (by have := ha.len; omega), decide_eq_true ((ha.same hb).2 h)]
theorem area_r {a : List Rect} {S : Int → Int → Bool} (ha : Reg a S) : pureCall E.P (L E) 14 [lst false (rectR.vals a)] = some (.int .i64 (areaL a)) := by
  rw [area_l false a (by have := ha.len; omega), ha.right]; rfl
theorem areaL_le : ∀ {l : List Rect}, (∀ r ∈ l, r.inBox 1048576) → 0 ≤ areaL l ∧ areaL l ≤ l.length * 1099511627776
  | [], _ => by simp [areaL]
  | r :: l, h => by
    have h1 := area_bound (okR_iff.2 (h r (by simp)))
    have h2 := areaL_le (l := l) fun s hs => h s (by simp [hs])
    show 0 ≤ r.area + areaL l ∧ r.area + areaL l ≤ ((l.length + 1 : Nat) : Int) * 1099511627776
    omega
theorem Reg.area_cnt {l : List Rect} {S : Int → Int → Bool} (h : Reg l S) {n : Nat} (hn : (n : Int) = 1048576) : areaL l = cnt n S := by
  rw [Rg.area_form h.form (n := n) (by rw [hn]; exact h.ok)]
  exact Rg.cnt_congr h.cell
theorem of_bad {l : List Rect} (h : l.all okR = false) : ofR l = .error 1 := by
  unfold ofR; rw [h]; rfl
/-- A row that lists were appended to, frozen. -/
theorem frz_rowV (l : List Rect) : ∃ x h', frzAll E.P 0 [rowV 4 [] (rectR.vals l)] (rowH 4 32 [] (rectR.vals l)) = some ([lst x (rectR.vals l)], h') := by
  by_cases h0 : l = []
  · subst h0
    exact ⟨true, [], frzL [] true []⟩
  · have hv : ¬ rectR.vals l = [] := fun e => h0 (List.map_eq_nil_iff.1 e)
    have e1 : rowV 4 [] (rectR.vals l) = rectR.sl 0 l := by
      unfold rowV Rec.sl
      rw [if_neg hv, Rec.vals_len]; rfl
    have e2 : rowH 4 32 [] (rectR.vals l) = [rectR.row 32 l] := by
      unfold rowH Rec.row
      rw [if_neg hv, Rec.vals_flat]; rfl
    rw [e1, e2]
    exact ⟨false, _, frzAll_row (Rec.freeze_row rfl s32 a32 (Nat.zero_le _))⟩
theorem lit_none (h : Heap) : buildSliceT (some elR) false h 0 #[] = some (lst true [], h) := rfl
theorem vals_cells (l : List Rect) : (rectR.vals l).all (fun v => (cellsL v).length == 4) = true := Rec.vals_all l

set_option maxHeartbeats 4000000 in
theorem algebra_spec (a b c : List Rect) : ∃ h', L E 4 [lst false (rectR.vals a), lst false (rectR.vals b), lst false (rectR.vals c)] [] 0 = some (.bool true, h') := by
  have sm := small_spec
  rw [L_fn F4 rfl]
  by_cases h1 : 4 < a.length
  · have h1' : 4 < (a.length : Int) := by omega
    exact ⟨[], by simp -implicitDefEqProofs [r4, p4, ret0 m8, sm, len_l, Rec.vals_len, h1']⟩
  have h1' : ¬ (4 < (a.length : Int)) := by omega
  by_cases h2 : 4 < b.length
  · have h2' : 4 < (b.length : Int) := by omega
    exact ⟨[], by simp -implicitDefEqProofs [r4, p4, ret0 m8, sm, len_l, Rec.vals_len, h1', h2']⟩
  have h2' : ¬ (4 < (b.length : Int)) := by omega
  by_cases h3 : 4 < c.length
  · have h3' : 4 < (c.length : Int) := by omega
    exact ⟨[], by simp -implicitDefEqProofs [r4, p4, ret0 m8, sm, len_l, Rec.vals_len, h1', h2', h3']⟩
  have h3' : ¬ (4 < (c.length : Int)) := by omega
  have la := of_l false a (by omega)
  have lb := of_l false b (by omega)
  have lc := of_l false c (by omega)
  cases oa : a.all okR
  · rw [of_bad oa] at la
    refine ⟨[], ?_⟩
    cases ob : ofR b <;> cases oc : ofR c <;> rw [ob] at lb <;> rw [oc] at lc <;> simp only [resL] at la lb lc <;>
      simp -implicitDefEqProofs [r4, p4, ret0 m8, sm, len_l, Rec.vals_len, h1', h2', h3', ret4 m9, frzL, la, lb, lc]
  obtain ⟨x, ex, rx⟩ := of_reg oa (by omega)
  rw [ex] at la
  cases ob : b.all okR
  · rw [of_bad ob] at lb
    refine ⟨[], ?_⟩
    cases oc : ofR c <;> rw [oc] at lc <;> simp only [resL] at la lb lc <;>
      simp -implicitDefEqProofs [r4, p4, ret0 m8, sm, len_l, Rec.vals_len, h1', h2', h3', ret4 m9, frzL, la, lb, lc]
  obtain ⟨y, ey, ry⟩ := of_reg ob (by omega)
  rw [ey] at lb
  cases oc : c.all okR
  · rw [of_bad oc] at lc
    refine ⟨[], ?_⟩
    simp only [resL] at la lb lc
    simp -implicitDefEqProofs [r4, p4, ret0 m8, sm, len_l, Rec.vals_len, h1', h2', h3', ret4 m9, frzL, la, lb, lc]
  obtain ⟨z, ez, rz⟩ := of_reg oc (by omega)
  rw [ez] at lc
  simp only [resL] at la lb lc
  obtain ⟨R, hRd⟩ : ∃ R, R = a ++ (b ++ c) := ⟨_, rfl⟩
  have oR : R.all okR = true := by rw [hRd, List.all_append, List.all_append, oa, ob, oc]; rfl
  have hl : R.length ≤ 14 := by rw [hRd, List.length_append, List.length_append]; omega
  have hR : ∀ r ∈ R, r.x0 < r.x1 := fun r hr => by have := okR_iff.1 (List.all_eq_true.1 oR r hr); unfold Rect.inBox at this; omega
  have dS : Det R (cell a) := (cell_det a).mono fun r hr => by rw [hRd]; simp [hr]
  have dT : Det R (cell b) := (cell_det b).mono fun r hr => by rw [hRd]; simp [hr]
  have dU : Det R (cell c) := (cell_det c).mono fun r hr => by rw [hRd]; simp [hr]
  have dST := dS.op dT orF rfl
  have dTU := dT.op dU orF rfl
  have dSaT := dS.op dT andF rfl
  have dSaU := dS.op dU andF rfl
  have dSmT := dS.op dT subF rfl
  obtain ⟨xy, qxy, rxy⟩ := union_r rx ry R hR dS dT hl
  obtain ⟨yx, qyx, ryx⟩ := union_r ry rx R hR dT dS hl
  obtain ⟨yz, qyz, ryz⟩ := union_r ry rz R hR dT dU hl
  obtain ⟨one, qone, rone⟩ := union_r rxy rz R hR dST dU hl
  obtain ⟨two, qtwo, rtwo⟩ := union_r rx ryz R hR dS dTU hl
  obtain ⟨all, eall, rall⟩ := of_reg oR hl
  obtain ⟨i, qi, ri⟩ := common_r rx ry R hR dS dT hl
  obtain ⟨bk, qbk, rbk⟩ := common_r ry rx R hR dT dS hl
  obtain ⟨xz, qxz, rxz⟩ := common_r rx rz R hR dS dU hl
  obtain ⟨three, qthree, rthree⟩ := common_r rx ryz R hR dS dTU hl
  obtain ⟨four, qfour, rfour⟩ := union_r ri rxz R hR dSaT dSaU hl
  obtain ⟨less, qless, rless⟩ := minus_r rx ry R hR dS dT hl
  obtain ⟨rest, qrest, rrest⟩ := common_r rless ry R hR dSmT dT hl
  obtain ⟨whole, qwhole, rwhole⟩ := union_r rless ri R hR dSmT dSaT hl
  obtain ⟨five, qfive, rfive⟩ := minus_r rx ryz R hR dS dTU hl
  obtain ⟨six, qsix, rsix⟩ := minus_r rless rz R hR dSmT dU hl
  have erest : rest = [] := (rrest.same (T := fun _ _ => false) (Reg.mk Rg.Form.nil (fun _ _ => rfl) (fun r hr => absurd hr List.not_mem_nil) (Nat.zero_le _))).2 fun x y => by
    unfold andF subF; cases cell a x y <;> cases cell b x y <;> rfl
  subst erest
  have s1 := same_r rxy ryx fun x y => by unfold orF; exact Bool.or_comm _ _
  have s2 := same_r rone rtwo fun x y => by unfold orF; exact Bool.or_assoc _ _ _
  have s3 := same_r rone rall fun x y => by
    rw [hRd, Rg.cell_append, Rg.cell_append]; unfold orF; exact Bool.or_assoc _ _ _
  have s4 := same_r ri rbk fun x y => by unfold andF; exact Bool.and_comm _ _
  have s5 := same_r rthree rfour fun x y => by unfold andF orF; exact Bool.and_or_distrib_left _ _ _
  have s6 := same_r rwhole rx fun x y => by unfold orF subF andF; cases cell a x y <;> cases cell b x y <;> rfl
  have s7 := same_r rfive rsix fun x y => by unfold orF subF; cases cell a x y <;> cases cell b x y <;> cases cell c x y <;> rfl
  have a1 := area_r rxy
  have a2 := area_r ri
  have a3 := area_r rx
  have a4 := area_r ry
  have hsum : areaL xy + areaL i = areaL x + areaL y := by
    obtain ⟨n, hn⟩ : ∃ n : Nat, (n : Int) = 1048576 := ⟨1048576, rfl⟩
    rw [rxy.area_cnt hn, ri.area_cnt hn, rx.area_cnt hn, ry.area_cnt hn]
    exact Rg.cnt_add fun x y => by unfold orF andF; cases cell a x y <;> cases cell b x y <;> rfl
  have b1 := areaL_le rx.ok
  have b2 := areaL_le ry.ok
  have b3 := areaL_le rxy.ok
  have b4 := areaL_le ri.ok
  have lx := rx.len
  have ly := ry.len
  have w1 : IntKind.i64.wrap (areaL xy + areaL i) = areaL x + areaL y := (wrap64 (by omega) (by omega)).trans hsum
  have w2 : IntKind.i64.wrap (areaL x + areaL y) = areaL x + areaL y := wrap64 (by omega) (by omega)
  obtain ⟨fx, fh, hf⟩ := frz_rowV R
  have lR := of_l fx R (by omega)
  rw [eall] at lR
  simp only [resL] at lR
  have ap1 := app_first (el := elR) (h := []) (lo := 0) (x := false) (st := false) (A := rectR.vals a) (vals_cells a) (by rw [Rec.vals_len]; show a.length * 32 ≤ _; omega)
  have ap2 := app_second (el := elR) (h := []) (lo := 0) (x := false) (A := rectR.vals a) (B := rectR.vals b) (vals_cells a) (vals_cells b) (by decide) (Nat.zero_le _) (by rw [Rec.vals_len, Rec.vals_len]; show (a.length + b.length) * 32 ≤ _; omega)
  have ap3 := app_second (el := elR) (h := []) (lo := 0) (x := false) (A := rectR.vals a ++ rectR.vals b) (B := rectR.vals c) (by rw [← Rec.vals_app]; exact vals_cells (a ++ b)) (vals_cells c) (by decide) (Nat.zero_le _) (by rw [List.length_append, Rec.vals_len, Rec.vals_len, Rec.vals_len]; show (a.length + b.length + c.length) * 32 ≤ _; omega)
  have eR : rectR.vals a ++ rectR.vals b ++ rectR.vals c = rectR.vals R := by rw [hRd, Rec.vals_app, Rec.vals_app, List.append_assoc]
  rw [eR] at ap3
  simp only [elR] at ap1 ap2 ap3
  simp only [okT] at qxy qyx qyz qone qtwo qi qbk qxz qthree qfour qless qrest qwhole qfive qsix
  have ln := lit_none
  simp only [elR] at ln
  refine ⟨fh, ?_⟩
  simp -implicitDefEqProofs [r4, p4, ret0 m8, sm, len_l, Rec.vals_len, h1', h2', h3', ret4 m9, frzL, la, lb, lc, ret1 m15, ret1 m16, ret1 m17, set_l, qxy, qyx, qyz, qone, qtwo, qi, qbk, qxz, qthree, qfour, qless, qrest, qwhole, qfive, qsix, ln, ap1, ap2, ap3, hf, lR, ret0 m12, ret0 m14, rf_l, s1, s2, s3, s4, s5, s6, s7, a1, a2, a3, a4, w1, w2]
end Go.Proofs.Ytgeebooalafepaa.Bm
