/-
  Chapter 06: lists that are no regions, and the statement on full regions. Conditions: lists that are not too long.
-/
import Derived.Test.YtgeebooalafepaaC06p
import Derived.Test.YtgeebooalafepaaRgE
import Derived.Test.YtgeebooalafepaaBmNum
namespace Go.Proofs.Ytgeebooalafepaa.Bm
open Go Go.RowKit
open Rg (Rect areaL cell ofL grid gcell)

theorem shift_bad (x : Bool) (a : List Rect) (dx dy : Int) (ha : a.length ≤ 1000000) (h : regB a = false) : pureCall E.P (L E) 22 [lst x (rectR.vals a), .int .i64 dx, .int .i64 dy] = some (.tuple ⟨[.slice none 0 0, .int .i64 1]⟩) := by
  have hr := right_l x a ha
  rw [h] at hr
  rw [pureCall_fn F22 rfl]
  simp -implicitDefEqProofs [r22, p22, ret0 m11, rf_l, hr]
theorem parts_bad (x : Bool) (a : List Rect) (ha : a.length ≤ 1000000) (h : regB a = false) : pureCall E.P (L E) 10 [lst x (rectR.vals a)] = some (.slice none 0 0) := by
  have hr := right_l x a ha
  rw [h] at hr
  rw [pureCall_fn F10 rfl]
  simp -implicitDefEqProofs [r10, p10, ret0 m11, rf_l, hr]
theorem bounds_bad (x : Bool) (a : List Rect) (ha : a.length ≤ 1000000) (h : regB a = false) : pureCall E.P (L E) 23 [lst x (rectR.vals a)] = some (.tuple ⟨[rectR.val zeroR, .bool false]⟩) := by
  have hr := right_l x a ha
  rw [h] at hr
  have h0 : ¬ a.length = 0 := fun e => by
    have : a = [] := List.eq_nil_of_length_eq_zero e
    subst this
    have := regB_iff.2 ⟨rfl, Nat.zero_le _, Rg.Form.nil⟩
    rw [h] at this; cases this
  have h0' : ¬ ((a.length : Int) = 0) := by omega
  rw [pureCall_fn F23 rfl]
  simp -implicitDefEqProofs [r23, p23, ret0 m11, rf_l, hr, len_l, Rec.vals_len, h0, b4_none, rect_val, zeroR]
theorem op_bad1 (f : Bool → Bool → Bool) {a b : List Rect} (h : regB a = false) : opR f a b = .error 1 := by unfold opR; rw [h]; rfl
theorem op_bad2 (f : Bool → Bool → Bool) {a b : List Rect} (h : regB b = false) : opR f a b = .error 1 := by unfold opR; rw [h, Bool.and_false]; rfl
theorem grid_of {n : Nat} (hn : n ≤ 450) : if n ≤ 200 then ∃ c, ofR (grid n) = .ok c ∧ Reg c (cell (grid n)) ∧ c.length = n ∧ areaL c = n else ofR (grid n) = .error 6 := by
  have hb := Rg.grid_box hn
  have ha : (grid n).all okR = true := box_ok hb (by decide)
  have hlen : (grid n).length = n := by unfold Rg.grid; rw [List.length_map, List.length_range]
  obtain ⟨h1, h2⟩ := Rg.ofL_ok (ofL_ok' ha)
  have h3 := Rg.grid_len hn h1 h2
  unfold ofR
  rw [if_pos ha, hlen, h3.1]
  split
  · rename_i h
    refine ⟨ofL (grid n), ?_, ⟨h1, h2, box_mono (h1.box fun x y hxy => Rg.cell_box hb (by rw [← h2]; exact hxy)) (by decide), by omega⟩, h3.1, h3.2⟩
    rw [if_neg (by omega)]
  · split <;> rfl
theorem grid_snoc (n : Nat) : grid (n + 1) = grid n ++ [gcell n] := by
  unfold Rg.grid; rw [List.range_succ, List.map_append]; rfl

set_option maxHeartbeats 4000000 in
theorem full_spec (z : Int) (a : List Rect) : ∃ h', L E 7 [.int .i64 z, lst false (rectR.vals a)] [] 0 = some (.bool true, h') := by
  have sm := small_spec
  rw [L_fn F7 rfl]
  by_cases h1 : z < 1
  · exact ⟨[], by simp -implicitDefEqProofs [r7, p7, ret0 m8, sm, len_l, Rec.vals_len, h1]⟩
  by_cases h2 : 450 < z
  · exact ⟨[], by simp -implicitDefEqProofs [r7, p7, ret0 m8, sm, len_l, Rec.vals_len, h1, h2]⟩
  by_cases h3 : 60 < a.length
  · have h3' : 60 < (a.length : Int) := by omega
    exact ⟨[], by simp -implicitDefEqProofs [r7, p7, ret0 m8, sm, len_l, Rec.vals_len, h1, h2, h3']⟩
  have h3' : ¬ (60 < (a.length : Int)) := by omega
  obtain ⟨n, rfl⟩ : ∃ n : Nat, z = n := ⟨z.toNat, by omega⟩
  have hn : n ≤ 450 := by omega
  simp -implicitDefEqProofs [r7, p7, ret0 m8, sm, len_l, Rec.vals_len, h1, h2, h3', prep_new, newK_nil s32]
  rw [LL_rec (α := Nat) 0 (fun i => [(6, rectR.sl 0 (grid i)), (7, .int .i64 (i : Int))]) (fun i => [rectR.row 32 (grid i)])
    (fun _ => (.exit 0, [(6, rectR.sl 0 (grid n)), (7, undef)], [rectR.row 32 (grid n)])) (fun i => i ≤ n) (fun i => n - i)]
  · have hgl : (grid n).length = n := by unfold Rg.grid; rw [List.length_map, List.length_range]
    have fz := Rec.freeze_row (R := rectR) (P := E.P) (h := [rectR.row 32 (grid n)]) (lo := 0) (b := 0) (t := 32) (l := grid n) rfl s32 a32 (Nat.le_refl _)
    have hf := frzAll_row fz
    generalize (if (grid n).length = 0 then _ else _) = fh at hf
    have lo := of_l false (grid n) (by omega)
    have key := grid_of hn
    have ra := right_l false a (by omega)
    have one : rectR.vals [⟨0, 0, 1, 1⟩] = [.agg ⟨[.int .i64 0, .int .i64 0, .int .i64 1, .int .i64 1]⟩] := rfl
    have qu := union_l false true a [⟨0, 0, 1, 1⟩] (by omega) (by decide)
    have qc := common_l true false [⟨0, 0, 1, 1⟩] a (by decide) (by omega)
    have qm := minus_l true false [⟨0, 0, 1, 1⟩] a (by decide) (by omega)
    have qa := area_l false a (by omega)
    have l1 := fun h => lits1 h ⟨0, 0, 1, 1⟩
    simp only [elR, rect_val] at l1
    have beq : ∀ p q, aBin E.P .eql 4 (.bool p) (.bool q) = some (.bool (p == q)) := fun p q => bin_eql_bool ub
    have bne : ∀ p q, aBin E.P .neq 4 (.bool p) (.bool q) = some (.bool (p != q)) := fun p q => bin_neq_bool ub
    by_cases h4 : n ≤ 200
    · rw [if_pos h4] at key
      obtain ⟨c, ec, rc, hcl, hca⟩ := key
      have h4' : (n : Int) ≤ 200 := by omega
      rw [ec] at lo
      simp only [resL] at lo
      have ac := area_l false c (by omega)
      rw [rc.right, if_pos rfl, hca] at ac
      cases hra : regB a
      · rw [hra] at ra
        rw [op_bad1 _ hra] at qu
        rw [op_bad2 _ hra] at qc qm
        rw [hra] at qa
        simp only [resL] at qu qc qm
        have qs := shift_bad false a 0 0 (by omega) hra
        have qb := bounds_bad false a (by omega) hra
        have qp := parts_bad false a (by omega) hra
        have si : settled depth (.int .i64 0) = true := rfl
        have ez := eql_rect zeroR zeroR
        simp only [rect_val, zeroR, decide_true] at qb ez
        refine ⟨fh ++ [.cells 32 [.int .i64 0, .int .i64 0, .int .i64 0, .int .i64 0] 0], ?_⟩
        simp -implicitDefEqProofs [k7_6, ret4 m9, hf, lo, h4', ret0 m14, rf_l, ac, hcl, len_l, Rec.vals_len, ret0 m11, ra, l1, ret1 m15, ret1 m16, ret1 m17, ret1 m22, ret0 m23, ret1 m10, set_l, si, qu, qc, qm, qs, qb, qp, qa, b4_none, b4_all, ez, beq, bne]
        done
      · rw [hra] at ra
        refine ⟨fh, ?_⟩
        simp -implicitDefEqProofs [k7_6, ret4 m9, hf, lo, h4', ret0 m14, rf_l, ac, hcl, len_l, Rec.vals_len, ret0 m11, ra, beq, bne]
        done
    · rw [if_neg h4] at key
      have h4' : ¬ ((n : Int) ≤ 200) := by omega
      rw [key] at lo
      simp only [resL] at lo
      cases hra : regB a
      · rw [hra] at ra
        rw [op_bad1 _ hra] at qu
        rw [op_bad2 _ hra] at qc qm
        rw [hra] at qa
        simp only [resL] at qu qc qm
        have qs := shift_bad false a 0 0 (by omega) hra
        have qb := bounds_bad false a (by omega) hra
        have qp := parts_bad false a (by omega) hra
        have si : settled depth (.int .i64 0) = true := rfl
        have ez := eql_rect zeroR zeroR
        simp only [rect_val, zeroR, decide_true] at qb ez
        refine ⟨fh ++ [.cells 32 [.int .i64 0, .int .i64 0, .int .i64 0, .int .i64 0] 0], ?_⟩
        simp -implicitDefEqProofs [k7_6, ret4 m9, hf, lo, h4', ret0 m14, rf_l, len_l, Rec.vals_len, ret0 m11, ra, l1, ret1 m15, ret1 m16, ret1 m17, ret1 m22, ret0 m23, ret1 m10, set_l, si, qu, qc, qm, qs, qb, qp, qa, b4_none, b4_all, ez, beq, bne]
        done
      · rw [hra] at ra
        refine ⟨fh, ?_⟩
        simp -implicitDefEqProofs [k7_6, ret4 m9, hf, lo, h4', ret0 m14, rf_l, len_l, Rec.vals_len, ret0 m11, ra, beq, bne]
        done
  · exact Nat.zero_le _
  · simp -implicitDefEqProofs [k7_6]; rfl
  · rfl
  · intro nx i hi ih
    by_cases hin : i < n
    · have ih := ih (i + 1) (by omega) (by omega)
      have hii : (i : Int) < (n : Int) := by omega
      have w1 : IntKind.i64.wrap ((i : Int) + 1) = (i : Int) + 1 := wrap64 (by omega) (by omega)
      have hgl : (grid i).length = i := by unfold Rg.grid; rw [List.length_map, List.length_range]
      have ap := app_rect (h := [rectR.row 32 (grid i)]) (b := 0) (lo := 0) (c := grid i) (gcell i) rfl (Nat.le_refl _) (by omega)
      rw [← grid_snoc] at ap
      have rm : aBin E.P .rem 3 (.int .i64 (i : Int)) (.int .i64 15) = some (.int .i64 ((i % 15 : Nat) : Int)) := rem_nat (P := E.P) (t := 3) (m := i) (n := 15) (by omega)
      have qo : aBin E.P .quo 3 (.int .i64 (i : Int)) (.int .i64 15) = some (.int .i64 ((i / 15 : Nat) : Int)) := quo_nat (P := E.P) (t := 3) (m := i) (n := 15) (by omega) (by omega)
      have w2 : IntKind.i64.wrap (2 * ((i % 15 : Nat) : Int)) = 2 * ((i % 15 : Nat) : Int) := wrap64 (by omega) (by omega)
      have w3 : IntKind.i64.wrap (2 * ((i % 15 : Nat) : Int) + 1) = 2 * ((i % 15 : Nat) : Int) + 1 := wrap64 (by omega) (by omega)
      have w4 : IntKind.i64.wrap (2 * ((i / 15 : Nat) : Int)) = 2 * ((i / 15 : Nat) : Int) := wrap64 (by omega) (by omega)
      have w5 : IntKind.i64.wrap (2 * ((i / 15 : Nat) : Int) + 1) = 2 * ((i / 15 : Nat) : Int) + 1 := wrap64 (by omega) (by omega)
      have eg : gcell i = ⟨2 * ((i % 15 : Nat) : Int), 2 * ((i / 15 : Nat) : Int), 2 * ((i % 15 : Nat) : Int) + 1, 2 * ((i / 15 : Nat) : Int) + 1⟩ := rfl
      simp only [eg] at ap
      generalize ((i % 15 : Nat) : Int) = u at *
      generalize ((i / 15 : Nat) : Int) = v at *
      generalize grid (i + 1) = g1 at *
      simp -implicitDefEqProofs [k7_6] at ih
      simp -implicitDefEqProofs [r7_6, k7_6, hin, hii, w1, rm, qo, w2, w3, w4, w5, b4_all, lit_rect, ap, trim_le]
      exact ih
    · have : i = n := by omega
      subst this
      simp -implicitDefEqProofs [r7_6, k7_6, trim_le]
end Go.Proofs.Ytgeebooalafepaa.Bm
