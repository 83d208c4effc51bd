/-
  Chapter 18: pairs of zones and names that come twice, for the statement on overlaps. Conditions: none.
-/
import Derived.Test.YtimjfondgdhfcaaQE22
import Derived.Test.YtimjfondgdhfcaaQE24
namespace Go.Proofs.Ytimjfondgdhfcaa.Bm
open Go Go.RowKit
open Rg (Rect Pt sidesP upS crossB onB sd ltP rightP allFr allFr_step allFr_end corn7 meet7 row7 right7)
theorem less_spec (a b : Pt) : pureCall E.P (L E) 78 [.agg ⟨[.int .i64 a.1, .int .i64 a.2]⟩, .agg ⟨[.int .i64 b.1, .int .i64 b.2]⟩] = some (.bool (ltP a b)) := by
  unfold ltP
  rw [pureCall_fn F78 rfl]
  by_cases h1 : a.1 < b.1
  · simp -implicitDefEqProofs [r78, padS, h1]
  by_cases h2 : a.1 = b.1
  · by_cases h3 : a.2 < b.2 <;> simp -implicitDefEqProofs [r78, padS, h1, h2, h3]
  · simp -implicitDefEqProofs [r78, padS, h1, h2]
theorem meet_spec (a b c d : Pt) : pureCall E.P (L E) 79 [.agg ⟨[.int .i64 a.1, .int .i64 a.2]⟩, .agg ⟨[.int .i64 b.1, .int .i64 b.2]⟩, .agg ⟨[.int .i64 c.1, .int .i64 c.2]⟩, .agg ⟨[.int .i64 d.1, .int .i64 d.2]⟩] = some (.bool (crossB (a, b) (c, d))) := by
  unfold crossB
  simp only
  rw [pureCall_fn F79 rfl]
  by_cases h : max (min a.1 b.1) (min c.1 d.1) ≤ min (max a.1 b.1) (max c.1 d.1)
  · simp -implicitDefEqProofs [r79, p79, min_int, max_int, h]
  · simp -implicitDefEqProofs [r79, p79, min_int, max_int, h]
set_option maxHeartbeats 4000000 in
theorem corners_spec (x : Bool) (p : List Pt) (hp : p.length ≤ 1000) : pureCall E.P (L E) 77 [lst x (spanR.vals p)] = some (.bool (allFr (corn7 p) 0 p.length)) := by
  have ln : ∀ h, lenT .sl h (lst x (spanR.vals p)) = some (.int .i64 p.length) := fun h => Rec.tree_len
  have bP : ∀ d n, below (d + 1) n (lst x (spanR.vals p)) = true := fun d n => rfl
  have pix := pt_index x p
  rw [pureCall_fn F77 rfl]
  generalize hPV : lst x (spanR.vals p) = PV at *
  simp -implicitDefEqProofs [r77, p77, ln]
  rw [LL_rec (α := Nat) 0 (fun i => [(4, .int .i64 (i : Int))]) (fun _ => []) (fun i => if allFr (corn7 p) i (p.length - i) then (.exit 0, [(4, undef)], []) else (.ret, [(2, .bool false), (4, undef)], [])) (fun i => i ≤ p.length) (fun i => p.length - i)]
  · rw [Nat.sub_zero]
    cases allFr (corn7 p) 0 p.length <;> simp -implicitDefEqProofs [k77_3]
  · exact Nat.zero_le _
  · simp -implicitDefEqProofs [k77_3]
  · rfl
  · intro nx i hi ih
    by_cases h : i < p.length
    · have h' : (i : Int) < (p.length : Int) := by omega
      have ih := ih (i + 1) (by omega) (by omega)
      have hm1 : (i + 1) % p.length < p.length := Nat.mod_lt _ (by omega)
      have hm2 : (i + 2) % p.length < p.length := Nat.mod_lt _ (by omega)
      have w1 : IntKind.i64.wrap ((i : Int) + 1) = ((i + 1 : Nat) : Int) := (wrap64 (by omega) (by omega)).trans (by omega)
      have w2 : IntKind.i64.wrap ((i : Int) + 2) = ((i + 2 : Nat) : Int) := (wrap64 (by omega) (by omega)).trans (by omega)
      have rm1 := rem_nat (P := E.P) (t := 3) (m := i + 1) (n := p.length) (by omega)
      have rm2 := rem_nat (P := E.P) (t := 3) (m := i + 2) (n := p.length) (by omega)
      have pa := pix i h
      have pb := pix _ hm1
      have pc := pix _ hm2
      have ec := Rg.corn7_pts h rfl rfl rfl
      rw [span_val] at pa pb pc
      rw [allFr_step h, ec]
      clear ec hm1 hm2
      generalize allFr (corn7 p) (i + 1) (p.length - (i + 1)) = q at ih ⊢
      generalize p.getD i (0, 0) = a at *
      generalize (i + 1) % p.length = j1 at *
      generalize (i + 2) % p.length = j2 at *
      generalize p.getD j1 (0, 0) = b at *
      generalize p.getD j2 (0, 0) = c at *
      obtain ⟨ax, ay⟩ := a
      obtain ⟨bx, byy⟩ := b
      obtain ⟨cx, cy⟩ := c
      unfold onB
      simp only at pa pb pc ⊢
      simp -implicitDefEqProofs [k77_3, -Int.natCast_add] at ih
      by_cases h1 : 0 ≤ ax
      case neg =>
        have h1' : ax < 0 := by omega
        rw [decide_eq_false h1]
        simp -implicitDefEqProofs [r77_3, k77_3, h, h', pa, pb, pc, w1, w2, rm1, rm2, h1, h1', trim_cut, bP, -Int.natCast_add]
      by_cases h2 : ax ≤ 1048576
      case neg =>
        have h1' : ¬ ax < 0 := by omega
        have h2' : 1048576 < ax := by omega
        rw [decide_eq_false h2, Bool.and_false]
        simp -implicitDefEqProofs [r77_3, k77_3, h, h', pa, pb, pc, w1, w2, rm1, rm2, h1', h2', trim_cut, bP, -Int.natCast_add]
      have h1' : ¬ ax < 0 := by omega
      have h2' : ¬ 1048576 < ax := by omega
      by_cases h3 : 0 ≤ ay
      case neg =>
        have h3' : ay < 0 := by omega
        rw [decide_eq_false h3, Bool.and_false]
        simp -implicitDefEqProofs [r77_3, k77_3, h, h', pa, pb, pc, w1, w2, rm1, rm2, h1', h2', h3', trim_cut, bP, -Int.natCast_add]
      have h3' : ¬ ay < 0 := by omega
      by_cases h4 : ay ≤ 1048576
      case neg =>
        have h4' : 1048576 < ay := by omega
        rw [decide_eq_false h4, Bool.and_false]
        simp -implicitDefEqProofs [r77_3, k77_3, h, h', pa, pb, pc, w1, w2, rm1, rm2, h1', h2', h3', h4', trim_cut, bP, -Int.natCast_add]
      have h4' : ¬ 1048576 < ay := by omega
      rw [decide_eq_true h1, decide_eq_true h2, decide_eq_true h3, decide_eq_true h4]
      by_cases e1 : ax = bx
      · subst e1
        by_cases e2 : ay = byy
        · subst e2
          by_cases e3 : ax = cx
          · subst e3
            simp -implicitDefEqProofs [r77_3, k77_3, h, h', pa, pb, pc, w1, w2, rm1, rm2, h1', h2', h3', h4', beq, trim_cut, bP, -Int.natCast_add]
          · have _u := e3
            simp -implicitDefEqProofs [r77_3, k77_3, h, h', pa, pb, pc, w1, w2, rm1, rm2, h1', h2', h3', h4', e3, beq, trim_cut, bP, -Int.natCast_add]
        · have _u := e2
          by_cases e3 : ax = cx
          · subst e3
            simp -implicitDefEqProofs [r77_3, k77_3, h, h', pa, pb, pc, w1, w2, rm1, rm2, h1', h2', h3', h4', e2, beq, trim_cut, bP, -Int.natCast_add]
          · have _u := e3
            simp -implicitDefEqProofs [r77_3, k77_3, h, h', pa, pb, pc, w1, w2, rm1, rm2, h1', h2', h3', h4', e2, e3, beq, trim_cut, bP, -Int.natCast_add]
            exact ih
      · have _u := e1
        by_cases e2 : ay = byy
        · subst e2
          by_cases e3 : bx = cx
          · subst e3
            simp -implicitDefEqProofs [r77_3, k77_3, h, h', pa, pb, pc, w1, w2, rm1, rm2, h1', h2', h3', h4', e1, beq, trim_cut, bP, -Int.natCast_add]
            exact ih
          · have _u := e3
            simp -implicitDefEqProofs [r77_3, k77_3, h, h', pa, pb, pc, w1, w2, rm1, rm2, h1', h2', h3', h4', e1, e3, beq, trim_cut, bP, -Int.natCast_add]
        · have _u := e2
          by_cases e3 : bx = cx
          · subst e3
            simp -implicitDefEqProofs [r77_3, k77_3, h, h', pa, pb, pc, w1, w2, rm1, rm2, h1', h2', h3', h4', e1, e2, beq, trim_cut, bP, -Int.natCast_add]
          · have _u := e3
            simp -implicitDefEqProofs [r77_3, k77_3, h, h', pa, pb, pc, w1, w2, rm1, rm2, h1', h2', h3', h4', e1, e2, e3, beq, trim_cut, bP, -Int.natCast_add]
    · have h' : ¬ ((i : Int) < (p.length : Int)) := by omega
      rw [allFr_end (by omega)]
      simp -implicitDefEqProofs [r77_3, k77_3, h, h', trim_le]
set_option maxHeartbeats 4000000 in
theorem right7_spec (x : Bool) (p : List Pt) (hp : p.length ≤ 1000000) : pureCall E.P (L E) 55 [lst x (spanR.vals p)] = some (.bool (rightP p)) := by
  have ln : ∀ h, lenT .sl h (lst x (spanR.vals p)) = some (.int .i64 p.length) := fun h => Rec.tree_len
  have bP : ∀ d n, below (d + 1) n (lst x (spanR.vals p)) = true := fun d n => rfl
  have rf : ∀ h, reify E.P 8 h (lst x (spanR.vals p)) = some (lst x (spanR.vals p)) := fun _ => rfl
  have pix := pt_index x p
  have hC : p.length ≤ 1000 → _ := corners_spec x p
  rw [← Rg.right7_eq, pureCall_fn F55 rfl]
  generalize hPV : lst x (spanR.vals p) = PV at *
  unfold right7
  by_cases h4 : 4 ≤ p.length
  case neg =>
    have h4' : (p.length : Int) < 4 := by omega
    have h4'' : p.length < 4 := by omega
    rw [decide_eq_false h4]
    simp -implicitDefEqProofs [-List.getD_eq_getElem?_getD, r55, p55, ln, h4', h4'']
  have h4' : ¬ ((p.length : Int) < 4) := by omega
  have h4'' : ¬ (p.length < 4) := by omega
  rw [decide_eq_true h4]
  by_cases h60 : p.length ≤ 60
  case neg =>
    have h60' : 60 < (p.length : Int) := by omega
    have h60'' : 60 < p.length := by omega
    rw [decide_eq_false h60]
    simp -implicitDefEqProofs [-List.getD_eq_getElem?_getD, r55, p55, ln, h4', h4'', h60', h60'']
  have h60' : ¬ (60 < (p.length : Int)) := by omega
  have h60'' : ¬ (60 < p.length) := by omega
  rw [decide_eq_true h60]
  have hC := hC (by omega)
  have s0 := Rg.sd_pts (p := p) (i := 0) (by omega)
  rw [Nat.zero_add, Nat.mod_eq_of_lt (show 1 < p.length by omega)] at s0
  have p0 := pix 0 (by omega)
  have p1 := pix 1 (by omega)
  rw [span_val] at p0 p1
  have p0' : indexAddrT (.sl 36 ⟨some true, some 2⟩) PV (.int .i64 0) = _ := p0
  have p1' : indexAddrT (.sl 36 ⟨some true, some 2⟩) PV (.int .i64 1) = _ := p1
  rw [s0]
  cases hc : allFr (corn7 p) 0 p.length
  · rw [hc] at hC
    simp -implicitDefEqProofs [-List.getD_eq_getElem?_getD, r55, p55, ln, h4', h4'', h60', h60'', ret0 m77, rf, hC]
  rw [hc] at hC
  by_cases hy : (p.getD 0 (0, 0)).2 = (p.getD 1 (0, 0)).2
  case neg =>
    rw [decide_eq_false (show ¬ (((p.getD 0 (0, 0), p.getD 1 (0, 0)) : Pt × Pt).1.2 = ((p.getD 0 (0, 0), p.getD 1 (0, 0)) : Pt × Pt).2.2) from hy)]
    simp -implicitDefEqProofs [-List.getD_eq_getElem?_getD, r55, p55, ln, h4', h4'', h60', h60'', ret0 m77, rf, hC, p0', p1', hy]
  rw [decide_eq_true (show ((p.getD 0 (0, 0), p.getD 1 (0, 0)) : Pt × Pt).1.2 = ((p.getD 0 (0, 0), p.getD 1 (0, 0)) : Pt × Pt).2.2 from hy), Bool.true_and, Bool.true_and, Bool.true_and]
  simp -implicitDefEqProofs [-List.getD_eq_getElem?_getD, r55, p55, ln, h4', h4'', h60', h60'', ret0 m77, rf, hC, p0', p1', hy]
  rw [LL_rec (α := Nat) 0 (fun i => [(4, .int .i64 (i : Int))]) (fun _ => []) (fun i => if allFr (row7 p) i (p.length - i) then (.exit 0, [(4, undef)], []) else (.ret, [(2, .bool false), (4, undef)], [])) (fun i => i ≤ p.length) (fun i => p.length - i)]
  · rw [Nat.sub_zero]
    cases allFr (row7 p) 0 p.length <;> simp -implicitDefEqProofs [-List.getD_eq_getElem?_getD, k55_7]
  · exact Nat.zero_le _
  · simp -implicitDefEqProofs [-List.getD_eq_getElem?_getD, k55_7]
  · rfl
  · intro nx i hi ih
    by_cases h : i < p.length
    · have h' : (i : Int) < (p.length : Int) := by omega
      have ih := ih (i + 1) (by omega) (by omega)
      have wi : IntKind.i64.wrap ((i : Int) + 1) = ((i + 1 : Nat) : Int) := (wrap64 (by omega) (by omega)).trans (by omega)
      have wi2 : IntKind.i64.wrap ((i : Int) + 2) = ((i + 2 : Nat) : Int) := (wrap64 (by omega) (by omega)).trans (by omega)
      have pI := pix i h
      rw [span_val] at pI
      have ls := less_spec (p.getD 0 (0, 0)) (p.getD i (0, 0))
      rw [allFr_step h]
      generalize hq : allFr (row7 p) (i + 1) (p.length - (i + 1)) = q at ih ⊢
      have er : row7 p i = ((decide (i = 0) || ltP (p.getD 0 (0, 0)) (p.getD i (0, 0))) && allFr (meet7 p i) (i + 2) (p.length - (i + 2))) := rfl
      rw [er]
      simp -implicitDefEqProofs [-List.getD_eq_getElem?_getD, k55_7, -Int.natCast_add] at ih
      by_cases h0 : i = 0 ∨ ltP (p.getD 0 (0, 0)) (p.getD i (0, 0)) = true
      case neg =>
        have h0a : ¬ i = 0 := fun e => h0 (.inl e)
        have h0b : ltP (p.getD 0 (0, 0)) (p.getD i (0, 0)) = false := by
          cases hl : ltP (p.getD 0 (0, 0)) (p.getD i (0, 0))
          · rfl
          · exact absurd (.inr hl) h0
        have h0p : 0 < (i : Int) := by omega
        have h0q : 0 < i := by omega
        rw [h0b] at ls ⊢
        rw [decide_eq_false h0a]
        simp -implicitDefEqProofs [-List.getD_eq_getElem?_getD, r55_7, k55_7, h, h', p0', pI, h0p, h0q, ret0 m78, ls, trim_le, -Int.natCast_add]
      have hd : (decide (i = 0) || ltP (p.getD 0 (0, 0)) (p.getD i (0, 0))) = true := by
        rcases h0 with h0 | h0
        · rw [decide_eq_true h0]; rfl
        · rw [h0, Bool.or_true]
      rw [hd, Bool.true_and]
      have n0 : p.length ≠ 0 := by omega
      by_cases hi0 : 0 < i
      case' pos =>
        have hlt : ltP (p.getD 0 (0, 0)) (p.getD i (0, 0)) = true := h0.resolve_left (by omega)
        have h0p : 0 < (i : Int) := by omega
        rw [hlt] at ls
        simp -implicitDefEqProofs [-List.getD_eq_getElem?_getD, r55_7, k55_7, h, h', p0', pI, hi0, h0p, ret0 m78, ls, wi2, -Int.natCast_add]
      case' neg =>
        have h0p : ¬ 0 < (i : Int) := by omega
        simp -implicitDefEqProofs [-List.getD_eq_getElem?_getD, r55_7, k55_7, h, h', hi0, h0p, wi2, -Int.natCast_add]
      all_goals
        rw [LL_rec (α := Nat) (i + 2) (fun k => [(5, .int .i64 (k : Int))]) (fun _ => []) (fun k => if allFr (meet7 p i) k (p.length - k) then (.exit 2, [(5, undef)], []) else (.ret, [(2, .bool false), (5, undef)], [])) (fun k => i + 2 ≤ k) (fun k => p.length - k)]
        · cases allFr (meet7 p i) (i + 2) (p.length - (i + 2))
          · simp -implicitDefEqProofs [-List.getD_eq_getElem?_getD, k55_12, trim_le]
          · simp -implicitDefEqProofs [-List.getD_eq_getElem?_getD, k55_12, wi, trim_le, -Int.natCast_add]
            exact ih
        · exact Nat.le_refl _
        · simp -implicitDefEqProofs [-List.getD_eq_getElem?_getD, k55_12]
        · rfl
        · intro nx k hk ih
          by_cases hkn : k < p.length
          · have hkn' : (k : Int) < (p.length : Int) := by omega
            have hi1 : i + 1 < p.length := by omega
            have ih := ih (k + 1) (by omega) (by omega)
            have wk : IntKind.i64.wrap ((k : Int) + 1) = ((k + 1 : Nat) : Int) := (wrap64 (by omega) (by omega)).trans (by omega)
            have rmk := rem_nat (P := E.P) (t := 3) (m := k + 1) (n := p.length) (by omega)
            have hmk : (k + 1) % p.length < p.length := Nat.mod_lt _ (by omega)
            have pI1 := pix (i + 1) hi1
            have pK := pix k hkn
            have pM := pix _ hmk
            rw [span_val] at pI1 pK pM
            have ms := meet_spec (p.getD i (0, 0)) (p.getD (i + 1) (0, 0)) (p.getD k (0, 0)) (p.getD ((k + 1) % p.length) (0, 0))
            have emm : meet7 p i k = !(decide ((k + 1) % p.length ≠ i) && crossB (p.getD i (0, 0), p.getD (i + 1) (0, 0)) (p.getD k (0, 0), p.getD ((k + 1) % p.length) (0, 0))) := by
              unfold meet7
              rw [Rg.sd_pts h, Rg.sd_pts hkn, Nat.mod_eq_of_lt hi1]
            rw [allFr_step hkn, emm]
            clear emm
            generalize crossB (p.getD i (0, 0), p.getD (i + 1) (0, 0)) (p.getD k (0, 0), p.getD ((k + 1) % p.length) (0, 0)) = cb at *
            generalize (k + 1) % p.length = m at *
            generalize allFr (meet7 p i) (k + 1) (p.length - (k + 1)) = qk at ih ⊢
            simp -implicitDefEqProofs [-List.getD_eq_getElem?_getD, k55_12, -Int.natCast_add] at ih
            by_cases h1 : m = i
            · subst h1
              simp -implicitDefEqProofs [-List.getD_eq_getElem?_getD, r55_12, k55_12, hkn, hkn', wk, rmk, trim_le, -Int.natCast_add]
              exact ih
            · have h1' : ¬ ((m : Int) = (i : Int)) := by omega
              cases cb
              · simp -implicitDefEqProofs [-List.getD_eq_getElem?_getD, r55_12, k55_12, hkn, hkn', wi, wk, rmk, h1, h1', pI, pI1, pK, pM, ret0 m79, ms, trim_le, -Int.natCast_add]
                exact ih
              · simp -implicitDefEqProofs [-List.getD_eq_getElem?_getD, r55_12, k55_12, hkn, hkn', wi, wk, rmk, h1, h1', pI, pI1, pK, pM, ret0 m79, ms, trim_le, -Int.natCast_add]
          · have hkn' : ¬ ((k : Int) < (p.length : Int)) := by omega
            rw [allFr_end (by omega)]
            simp -implicitDefEqProofs [-List.getD_eq_getElem?_getD, r55_12, k55_12, hkn, hkn', trim_le]
    · have h' : ¬ ((i : Int) < (p.length : Int)) := by omega
      rw [allFr_end (by omega)]
      simp -implicitDefEqProofs [-List.getD_eq_getElem?_getD, r55_7, k55_7, h, h', trim_le]
end Go.Proofs.Ytimjfondgdhfcaa.Bm
namespace Go.Proofs.Ytimjfondgdhfcaa.Bm
open Go Go.RowKit
open Rg (Rect Slab Pt sidesP upS hB ysP colY polyL rightP sortU stripL outT emit pairs ends lowN lowN_le ins7 putAt in7 rows7)
def iO (o : List Int) : Value := match o with
  | [] => .slice none 0 0
  | o => iT o
theorem iO_len {h : Heap} {o : List Int} : lenT .sl h (iO o) = some (.int .i64 o.length) := by
  cases o
  · rfl
  · exact iT_len
theorem iO_index {o : List Int} {i : Nat} (hi : i < o.length) : indexAddrT (.sl 3 ⟨some false, some 1⟩) (iO o) (.int .i64 (i : Int)) = some (cptr (.int .i64 o[i])) := by
  cases o
  · exact absurd hi (Nat.not_lt_zero _)
  · exact iT_index hi
theorem iO_reifyR {P : Program} (h : Heap) (o : List Int) : reifyR P h (iO o) = some (iO o) := by cases o <;> rfl
theorem iO_bel {d n : Nat} {o : List Int} : below (d + 1) n (iO o) = true := by cases o <;> rfl
theorem int_all (o : List Int) : (o.map (Value.int .i64)).all (fun v => (cellsL v).length == 1) = true := by simp [List.all_eq_true]
theorem int_cells {h : Heap} (x : Bool) (o : List Int) : sliceCells h 1 (lst x (o.map (.int .i64))) = some (intR.flat o, o.length) := by
  rw [cells_lst (int_all o), int_flat]
  congr 2
  · induction o with
    | nil => rfl
    | cons z o ih => rw [List.map_cons, List.flatMap_cons, ih]; rfl
  · simp
theorem iO_take {h : Heap} {o : List Int} {k : Nat} (hk : k ≤ o.length) : ∃ v, sliceT (.sl 3 ⟨some false, some 1⟩) h (iO o) none (some (.int .i64 (k : Int))) none = some v ∧ ∀ h', sliceCells h' 1 v = some (intR.flat (o.take k), (o.take k).length) := by
  cases o with
  | nil =>
    have : k = 0 := by simpa using hk
    subst this
    exact ⟨.slice none 0 0, rfl, fun _ => rfl⟩
  | cons z o =>
    refine ⟨_, slice_take (int_all _) (by simpa using hk), fun h' => ?_⟩
    rw [← List.map_take]
    exact int_cells _ _
theorem iO_drop {h : Heap} {o : List Int} {k : Nat} (hk : k ≤ o.length) : ∃ v, sliceT (.sl 3 ⟨some false, some 1⟩) h (iO o) (some (.int .i64 (k : Int))) none none = some v ∧ ∀ h', sliceCells h' 1 v = some (intR.flat (o.drop k), (o.drop k).length) := by
  cases o with
  | nil =>
    have : k = 0 := by simpa using hk
    subst this
    exact ⟨.slice none 0 0, rfl, fun _ => rfl⟩
  | cons z o =>
    refine ⟨_, slice_drop (int_all _) rfl (by simpa using hk), fun h' => ?_⟩
    rw [← List.map_drop]
    exact int_cells _ _
theorem app_ints {h : Heap} {b lo : Nat} {c m : List Int} {v : Value} (hob : h[b]? = some (intR.row 3 c)) (hv : sliceCells h 1 v = some (intR.flat m, m.length)) (hlo : lo ≤ b) (hc : c.length + m.length ≤ 1000000) :
    appendT (some ⟨3, 1, 8, .int .i64 0, ⟨some false, some 1⟩⟩) h lo false (intR.sl b c) v = some (intR.sl b (c ++ m), h.set b (intR.row 3 (c ++ m))) :=
  Rec.app (R := intR) (m := m) rfl hob hv hlo (by show (c.length + m.length) * 8 ≤ 2 ^ 47; omega)
theorem int_freezeE {h : Heap} {lo b : Nat} {l : List Int} (hob : h[b]? = some (intR.row 3 l)) (hlo : lo ≤ b) : freezeV E.P depth lo h (intR.sl b l) = some (iT l, if l.length = 0 then h else h.set b .dead) := by
  have e0 : intR.sl b l = .slice (some ⟨b, 0, some l.length⟩) l.length l.length := by unfold Rec.sl; simp [intR]
  have hob' : h[b]? = some (.cells 3 (l.map (.int .i64)) 1) := by rw [hob]; unfold Rec.row; rw [int_flat]; rfl
  rw [e0]
  exact frz_one8 hob' s3 g3 hlo (List.length_map _).symm (List.length_map _).symm (by simp [List.all_eq_true])
theorem rop_loadT {C : Callee} {lo : Nat} {k : TI} {x : Operand} {ρ : Operand → Value} {h : Heap} : ropR E C lo true (.load k x) ρ h = if isCp (ρ x) then (loadT k h (ρ x)).map (·, h) else none := by
  show (if (true && !isCp (ρ x)) = true then none else _) = _
  cases isCp (ρ x) <;> rfl
theorem isCp_cptr {v : Value} : isCp (cptr v) = true := rfl
theorem iO_tr (o : List Int) : isTr (iO o) = true := by cases o <;> rfl
theorem app_start {h : Heap} {m : List Int} {v : Value} (z : Int) (hv : ∀ h, sliceCells h 1 v = some (intR.flat m, m.length)) (hm : m.length ≤ 100000) : ∃ w g, appendT (some ⟨3, 1, 8, .int .i64 0, ⟨some false, some 1⟩⟩) h h.length true (.slice none 0 0) v = some (w, g) ∧
    appendT (some ⟨3, 1, 8, .int .i64 0, ⟨some false, some 1⟩⟩) g h.length false w (lst true [.int .i64 z]) = some (intR.sl h.length (m ++ [z]), h ++ [intR.row 3 (m ++ [z])]) := by
  by_cases h0 : m = []
  · subst h0
    refine ⟨.slice none 0 0, h, ?_, ?_⟩
    · unfold appendT
      simp only [Option.bind_some, hv]
      rfl
    · unfold appendT
      simp only [Option.bind_some]
      rw [show sliceCells h 1 (lst true [.int .i64 z]) = some (intR.flat [z], 1) from cells_lst (by rfl)]
      simp [Rec.sl, Rec.row, intR, Rec.flat]
  · refine ⟨intR.sl h.length m, h ++ [intR.row 3 m], ?_, ?_⟩
    · have hl : m.length ≠ 0 := fun e => h0 (List.eq_nil_of_length_eq_zero e)
      unfold appendT
      simp only [Option.bind_some, hv]
      rw [if_neg hl, if_pos (by omega)]
      unfold Rec.sl Rec.row
      rw [Rec.flat_len]; rfl
    · have := app_num (h := h ++ [intR.row 3 m]) (b := h.length) (lo := h.length) (c := m) z (by simp) (Nat.le_refl _) (by omega)
      rw [this]
      simp
set_option maxHeartbeats 2000000 in
theorem sorted7_spec (l : List Int) (hl : l.length ≤ 10000) : pureCall E.P (L E) 56 [iT l] = some (iO (sortU l)) := by
  rw [← Rg.ins7_sortU, pureCall_fn F56 rfl]
  simp -implicitDefEqProofs [r56, p56]
  rw [LL_for (γ := List Int) l [] (fun i o => [(3, iO o), (4, .int .i64 i)]) (fun _ _ => [])
    (fun _ rest o => (.exit 0, [(3, iO (rest.foldl ins7 o)), (4, undef)], [])) (fun i o => o.length ≤ i) (by omega) (Nat.le_refl _)]
  · have rr : reifyR E.P [] (iO (l.foldl ins7 [])) = some (iO (l.foldl ins7 [])) := iO_reifyR [] _
    generalize iO (l.foldl ins7 []) = RV at *
    simp -implicitDefEqProofs [k56_3, rr]
  · simp -implicitDefEqProofs [k56_3, iO]
  · rfl
  · intro nx i o hi _
    simp -implicitDefEqProofs [r56_3, k56_3, hi, iT_len, trim_le]
  · intro nx i z rest o hi hv hd hw ho ih
    have ixl := iT_index hi
    rw [hv] at ixl
    have oln : ∀ h, lenT .sl h (iO o) = some (.int .i64 o.length) := fun h => iO_len
    have oix : ∀ (j : Nat) (hj : j < o.length), indexAddrT (.sl 3 ⟨some false, some 1⟩) (iO o) (.int .i64 (j : Int)) = some (cptr (.int .i64 o[j])) := fun j hj => iO_index hj
    have hle := lowN_le o z
    have gd : ∀ j (hj : j < o.length), o.getD j 0 = o[j] := fun j hj => by rw [List.getD_eq_getElem?_getD, List.getElem?_eq_getElem hj]; rfl
    have ei : ins7 o z = if lowN o z < o.length ∧ o.getD (lowN o z) 0 = z then o else putAt o (lowN o z) z := rfl
    have tk := fun (h : Heap) (k : Nat) (hk : k ≤ o.length) => iO_take (h := h) hk
    have dr := fun (h : Heap) (k : Nat) (hk : k ≤ o.length) => iO_drop (h := h) hk
    have obl : ∀ d n, below (d + 1) n (iO o) = true := fun _ _ => iO_bel
    have otr := iO_tr o
    rw [List.foldl_cons]
    generalize hOV : iO o = OV at *
    simp -implicitDefEqProofs [r56_3, k56_3, hi, iT_len]
    rw [LL_rec (α := Nat) 0 (fun k => [(5, .int .i64 (k : Int))]) (fun _ => []) (fun k => (.exit 2, [(5, .int .i64 ((k + lowN (o.drop k) z : Nat) : Int))], [])) (fun k => k ≤ o.length) (fun k => o.length - k)]
    · rw [List.drop_zero, Nat.zero_add]
      generalize lowN o z = k at hle ei ⊢
      by_cases hc : k < o.length ∧ o.getD k 0 = z
      · rw [ei, if_pos hc]
        obtain ⟨hk, hkz⟩ := hc
        rw [gd _ hk] at hkz
        have hk' : (k : Int) < (o.length : Int) := by omega
        have ih := ih o (by omega)
        rw [hOV] at ih
        simp -implicitDefEqProofs [k56_3] at ih
        simp -implicitDefEqProofs [k56_6, oln, hk, hk', oix k hk, ixl, hkz, hw, trim_le]
        exact ih
      · rw [ei, if_neg hc]
        have ih := ih (putAt o k z) (by rw [Rg.putAt_len]; omega)
        obtain ⟨tv, t1, t2⟩ := tk [] k hle
        obtain ⟨dv, d1, d2⟩ := dr [intR.row 3 (o.take k ++ [z])] k hle
        obtain ⟨wv, g1, a1, a2⟩ := app_start (h := []) (v := tv) z t2 (by rw [List.length_take]; omega)
        simp only [List.length_nil, List.nil_append] at a1 a2
        have a3 := app_ints (h := [intR.row 3 (o.take k ++ [z])]) (b := 0) (lo := 0) (c := o.take k ++ [z]) (m := o.drop k) rfl (d2 _) (Nat.le_refl _) (by simp; omega)
        have ep : o.take k ++ [z] ++ o.drop k = putAt o k z := by rw [List.append_assoc]; rfl
        rw [ep] at a3
        have fz := int_freezeE (h := [intR.row 3 (putAt o k z)]) (lo := 0) (b := 0) (l := putAt o k z) rfl (Nat.le_refl _)
        rw [if_neg (by rw [Rg.putAt_len]; omega)] at fz
        have eO : iO (putAt o k z) = iT (putAt o k z) := by
          have hl : (putAt o k z).length = o.length + 1 := Rg.putAt_len ..
          cases hq : putAt o k z with
          | nil => rw [hq] at hl; exact absurd hl (by simp)
          | cons a q => rfl
        rw [eO] at ih
        simp -implicitDefEqProofs [k56_3] at ih
        by_cases hk : k < o.length
        · have hk' : (k : Int) < (o.length : Int) := by omega
          have hne : ¬ o[k] = z := fun q => hc ⟨hk, by rw [gd _ hk, q]⟩
          simp -implicitDefEqProofs [k56_6, oln, hk, hk', oix k hk, ixl, hne, prep_frz, prep_still, rop_loadT, isCp_cptr, otr, t1, d1, a1, a2, a3, lit_num, fz, hw, trim_cut, iT_bel, obl]
          exact ih
        · have hk' : ¬ ((k : Int) < (o.length : Int)) := by omega
          simp -implicitDefEqProofs [k56_6, oln, hk, hk', ixl, prep_frz, prep_still, rop_loadT, isCp_cptr, otr, t1, d1, a1, a2, a3, lit_num, fz, hw, trim_cut, iT_bel, obl]
          exact ih
    · exact Nat.zero_le _
    · simp -implicitDefEqProofs [k56_6]
    · rfl
    · intro nx k hk ih
      by_cases hko : k < o.length
      · have hk' : (k : Int) < (o.length : Int) := by omega
        have e : o.drop k = o[k] :: o.drop (k + 1) := List.drop_eq_getElem_cons hko
        have wk : IntKind.i64.wrap ((k : Int) + 1) = ((k + 1 : Nat) : Int) := (wrap64 (by omega) (by omega)).trans (by omega)
        have ih := ih (k + 1) (by omega) (by omega)
        rw [e]
        simp -implicitDefEqProofs [k56_6, -Int.natCast_add] at ih
        by_cases hz : o[k] < z
        · have el : k + lowN (o[k] :: o.drop (k + 1)) z = k + 1 + lowN (o.drop (k + 1)) z := by
            show k + (if o[k] < z then _ else _) = _
            rw [if_pos hz]; omega
          rw [el]
          simp -implicitDefEqProofs [r56_6, k56_6, oln, hko, hk', oix k hko, ixl, hz, wk, trim_le, -Int.natCast_add]
          exact ih
        · have el : k + lowN (o[k] :: o.drop (k + 1)) z = k := by
            show k + (if o[k] < z then _ else _) = _
            rw [if_neg hz]; rfl
          rw [el]
          simp -implicitDefEqProofs [r56_6, k56_6, oln, hko, hk', oix k hko, ixl, hz, trim_le]
      · have hk' : ¬ ((k : Int) < (o.length : Int)) := by omega
        have e : k + lowN (o.drop k) z = k := by rw [List.drop_eq_nil_of_le (by omega)]; rfl
        rw [e]
        simp -implicitDefEqProofs [r56_6, k56_6, oln, hko, hk', trim_le]
end Go.Proofs.Ytimjfondgdhfcaa.Bm
namespace Go.Proofs.Ytimjfondgdhfcaa.Bm
open Go Go.RowKit
open Rg (Rect Slab Pt sidesP upS hB ysP colY polyL rightP sortU stripL outT emit pairs ends in7 rows7)
set_option maxHeartbeats 4000000 in
theorem rows7_spec (x : Bool) (p : List Pt) (v : Int) (hp : p.length ≤ 1000) : pureCall E.P (L E) 57 [lst x (spanR.vals p), .int .i64 v] = some (iO (sortU (rows7 p v))) := by
  have ln : ∀ h, lenT .sl h (lst x (spanR.vals p)) = some (.int .i64 p.length) := fun h => Rec.tree_len
  have bP : ∀ d n, below (d + 1) n (lst x (spanR.vals p)) = true := fun d n => rfl
  have pix := fun j hj => pt_index x p j hj
  rw [pureCall_fn F57 rfl]
  generalize hPV : lst x (spanR.vals p) = PV at *
  have hsl := Rg.sides_len p
  have hrl : (rows7 p v).length ≤ p.length := by
    unfold rows7
    rw [List.length_map, ← hsl]
    exact List.length_filter_le _ _
  simp -implicitDefEqProofs [r57, p57, prep_new, newK_nil s3]
  rw [LL_for (γ := List Int) (sidesP p) [] (fun i c => [(5, intR.sl 0 c), (6, .int .i64 i)]) (fun _ c => [intR.row 3 c])
    (fun _ rest c => (.exit 0, [(5, intR.sl 0 (c ++ (rest.filter (in7 v)).map (fun s => s.1.2))), (6, undef)], [intR.row 3 (c ++ (rest.filter (in7 v)).map (fun s => s.1.2))])) (fun i c => c.length ≤ i) (by omega) (Nat.le_refl _)]
  · have er : ((sidesP p).filter (in7 v)).map (fun s => s.1.2) = rows7 p v := rfl
    rw [List.nil_append, er]
    have fz := int_freezeE (h := [intR.row 3 (rows7 p v)]) (lo := 0) (b := 0) (l := rows7 p v) rfl (Nat.le_refl _)
    have so := sorted7_spec (rows7 p v) (by omega)
    generalize rows7 p v = l at *
    have rr : reifyR E.P (if l.length = 0 then [intR.row 3 l] else [intR.row 3 l].set 0 .dead) (iO (sortU l)) = some (iO (sortU l)) := iO_reifyR _ _
    generalize (if l.length = 0 then [intR.row 3 l] else [intR.row 3 l].set 0 .dead) = G at *
    simp -implicitDefEqProofs [k57_3, prep_frz, fz, ret1 m56, iT_set, so, rr]
  · simp -implicitDefEqProofs [k57_3, Rec.sl_nil]
  · rfl
  · intro nx i c hi _
    rw [hsl] at hi
    simp -implicitDefEqProofs [r57_3, k57_3, hi, ln, trim_le]
  · intro nx i s rest c hi hv hd hw hc ih
    have hip : i < p.length := by omega
    have hip' : (i : Int) < (p.length : Int) := by omega
    have hm : (i + 1) % p.length < p.length := Nat.mod_lt _ (by omega)
    have es := Rg.sides_get hip
    rw [hv] at es
    have e1 : p.getD i (0, 0) = s.1 := by rw [es, List.getD_eq_getElem?_getD, List.getElem?_eq_getElem hip]; rfl
    have e2 : p.getD ((i + 1) % p.length) (0, 0) = s.2 := by rw [es, List.getD_eq_getElem?_getD, List.getElem?_eq_getElem hm]; rfl
    have i1 := pix i hip
    have i2 := pix _ hm
    rw [e1, span_val] at i1
    rw [e2, span_val] at i2
    have wi : IntKind.i64.wrap ((i : Int) + 1) = ((i + 1 : Nat) : Int) := (wrap64 (by omega) (by omega)).trans (by omega)
    have rm := rem_nat (P := E.P) (t := 3) (m := i + 1) (n := p.length) (by omega)
    clear es e1 e2 hm
    generalize (i + 1) % p.length = j at i2 rm
    have keep : in7 v s = false → c ++ ((s :: rest).filter (in7 v)).map (fun s => s.1.2) = c ++ (rest.filter (in7 v)).map (fun s => s.1.2) := fun h => by rw [List.filter_cons_of_neg (by rw [h]; exact Bool.false_ne_true)]
    have take : in7 v s = true → c ++ ((s :: rest).filter (in7 v)).map (fun s => s.1.2) = c ++ [s.1.2] ++ (rest.filter (in7 v)).map (fun s => s.1.2) := fun h => by rw [List.filter_cons_of_pos h, List.map_cons, List.append_assoc]; rfl
    have ein : in7 v s = (decide (s.1.2 = s.2.2) && (decide (min s.1.1 s.2.1 ≤ v) && decide (v < max s.1.1 s.2.1))) := rfl
    obtain ⟨⟨a, b⟩, u, w⟩ := s
    simp only at i1 i2 ein take
    have ihc := ih c (by omega)
    have ihs := ih (c ++ [b]) (by rw [List.length_append]; show c.length + 1 ≤ _; omega)
    simp -implicitDefEqProofs [k57_3, -Int.natCast_add, -List.append_assoc] at ihc ihs
    by_cases q1 : b = w
    case neg =>
      rw [keep (by rw [ein, decide_eq_false q1]; rfl)]
      simp -implicitDefEqProofs [r57_3, k57_3, hip, hip', ln, i1, i2, wi, rm, q1, trim_cut, bP, Rec.sl_bel, Rec.row_bel, -Int.natCast_add, -List.append_assoc]
      exact ihc
    subst q1
    by_cases q2 : min a u ≤ v
    case neg =>
      rw [keep (by rw [ein, decide_eq_false q2, Bool.false_and, Bool.and_false])]
      simp -implicitDefEqProofs [r57_3, k57_3, hip, hip', ln, i1, i2, wi, rm, min_int, q2, trim_cut, bP, Rec.sl_bel, Rec.row_bel, -Int.natCast_add, -List.append_assoc]
      exact ihc
    by_cases q3 : v < max a u
    case neg =>
      rw [keep (by rw [ein, decide_eq_false q3, Bool.and_false, Bool.and_false])]
      simp -implicitDefEqProofs [r57_3, k57_3, hip, hip', ln, i1, i2, wi, rm, min_int, max_int, q2, q3, trim_cut, bP, Rec.sl_bel, Rec.row_bel, -Int.natCast_add, -List.append_assoc]
      exact ihc
    have ap := fun h (hob : h[0]? = some (intR.row 3 c)) => app_num (h := h) (b := 0) (lo := 0) (c := c) b hob (Nat.zero_le _) (by omega)
    rw [take (by rw [ein, decide_eq_true rfl, decide_eq_true q2, decide_eq_true q3]; rfl)]
    simp -implicitDefEqProofs [r57_3, k57_3, hip, hip', ln, i1, i2, wi, rm, min_int, max_int, q2, q3, lit_num, ap, trim_cut, bP, Rec.sl_bel, Rec.row_bel, -Int.natCast_add, -List.append_assoc]
    exact ihs
set_option maxHeartbeats 4000000 in
theorem region7_spec (x : Bool) (p : List Pt) (hp : p.length ≤ 1000000) : pureCall E.P (L E) 33 [lst x (spanR.vals p)] = some (resL (polyX p)) := by
  have ln : ∀ h, lenT .sl h (lst x (spanR.vals p)) = some (.int .i64 p.length) := fun h => Rec.tree_len
  have hR := right7_spec x p hp
  have rf : ∀ h, reify E.P 8 h (lst x (spanR.vals p)) = some (lst x (spanR.vals p)) := fun _ => rfl
  have sv0 : settled depth (lst x (spanR.vals p)) = true := rfl
  have bP : ∀ d n, below (d + 1) n (lst x (spanR.vals p)) = true := fun d n => rfl
  have pix : ∀ (j : Nat) (hj : j < p.length), indexAddrT (.sl 36 ⟨some true, some 2⟩) (lst x (spanR.vals p)) (.int .i64 (j : Int)) = some (cptr (spanR.val p[j])) := fun j hj => Rec.index_tree rfl hj
  have rw7 := fun v (h : p.length ≤ 1000) => rows7_spec x p v h
  rw [pureCall_fn F33 rfl]
  unfold polyX
  generalize hPV : lst x (spanR.vals p) = PV at *
  cases hr : rightP p
  · rw [hr] at hR
    simp -implicitDefEqProofs [r33, p33, ret0 m55, rf, hR, resL]
  rw [hr] at hR
  obtain ⟨hp4, hp60⟩ := Rg.rightP_len hr
  have hpo := Rg.rightP_poly hr
  have rw7 := fun v => rw7 v (by omega)
  simp -implicitDefEqProofs [r33, p33, ret0 m55, rf, hR, prep_new, newK_nil s3]
  rw [LL_for (γ := List Int) p [] (fun i c => [(4, intR.sl 0 c), (5, .int .i64 i)]) (fun _ c => [intR.row 3 c])
    (fun _ rest c => (.exit 0, [(4, intR.sl 0 (c ++ rest.map (·.1))), (5, undef)], [intR.row 3 (c ++ rest.map (·.1))])) (fun i c => c.length = i) (by omega) rfl]
  · rw [List.nil_append]
    have hxl : (p.map (·.1)).length = p.length := List.length_map _
    have hU : (sortU (p.map (·.1))).length ≤ p.length := by
      have := Rg.sortU_le (p.map (·.1)); omega
    have fz := int_freezeE (h := [intR.row 3 (p.map (·.1))]) (lo := 0) (b := 0) (l := p.map (·.1)) rfl (Nat.le_refl _)
    rw [if_neg (by omega)] at fz
    have so := sorted7_spec (p.map (·.1)) (by omega)
    have ePL : polyL p = outT (stripL (colY p) (sortU (p.map (·.1)))) := rfl
    rw [ePL]
    have hev : ∀ x, (sortI (ysP p x)).length % 2 = 0 := fun x => by rw [sortI_len]; exact Rg.ys_even p x
    have hyl : ∀ x, (sortI (ysP p x)).length ≤ p.length := fun x => by rw [sortI_len]; exact Rg.ys_len p x
    have rw7 : ∀ v, pureCall E.P (L E) 57 [PV, .int .i64 v] = some (iO (sortI (ysP p v))) := fun v => by rw [rw7, Rg.rows7_sort hpo]
    have Uln : ∀ h, lenT .sl h (iO (sortU (p.map (·.1)))) = some (.int .i64 (sortU (p.map (·.1))).length) := fun h => iO_len
    have Uix : ∀ (i : Nat) (hi : i < (sortU (p.map (·.1))).length), indexAddrT (.sl 3 ⟨some false, some 1⟩) (iO (sortU (p.map (·.1)))) (.int .i64 (i : Int)) = some (cptr (.int .i64 (sortU (p.map (·.1)))[i])) := fun i hi => iO_index hi
    have Ubl : ∀ d n, below (d + 1) n (iO (sortU (p.map (·.1)))) = true := fun d n => iO_bel
    have iTs := iT_set (p.map (·.1))
    have iTb : ∀ d n, below (d + 1) n (iT (p.map (·.1))) = true := fun d n => iT_bel
    generalize sortU (p.map (·.1)) = U at *
    generalize iO U = UV at *
    generalize iT (p.map (·.1)) = XV at *
    simp -implicitDefEqProofs [k33_5, prep_frz, fz, ret1 m56, iTs, so, prep_new, newK_nil s32]
    rw [LL_rec (α := Nat × List Rect) (0, []) (fun a => [(7, rectR.sl 1 a.2), (8, .int .i64 (a.1 : Int))]) (fun a => [.dead, rectR.row 55 a.2])
      (fun a => (.exit 2, [(7, rectR.sl 1 (a.2 ++ outT (stripL (colY p) (U.drop a.1)))), (8, undef)], [.dead, rectR.row 55 (a.2 ++ outT (stripL (colY p) (U.drop a.1)))])) (fun a => a.1 ≤ U.length ∧ a.2.length ≤ 100 * a.1) (fun a => U.length - a.1)]
    · rw [List.drop_zero, List.nil_append]
      generalize outT (stripL (colY p) U) = F
      have rr := Rec.reify_row (R := rectR) (P := E.P) (h := [.dead, rectR.row 55 F]) (b := 1) (n := 7) (t := 55) (l := F) rfl s32 a32
      by_cases h2 : 200 < F.length
      · have h2' : 200 < (F.length : Int) := by omega
        simp -implicitDefEqProofs [k33_11, Rec.sl_len, h2, h2', resL]
      · have h2' : ¬ (200 < (F.length : Int)) := by omega
        simp -implicitDefEqProofs [k33_11, Rec.sl_len, h2, h2', rr, resL]
    · exact ⟨Nat.zero_le _, Nat.zero_le _⟩
    · simp -implicitDefEqProofs [k33_11, Rec.sl_nil]
    · rfl
    · intro nx c hc ih
      obtain ⟨i, o⟩ := c
      obtain ⟨h1, h2⟩ := hc
      simp only at h1 h2
      by_cases hi : i + 1 < U.length
      · have wi : IntKind.i64.wrap ((i : Int) + 1) = ((i + 1 : Nat) : Int) := (wrap64 (by omega) (by omega)).trans (by omega)
        have hi' : ((i + 1 : Nat) : Int) < (U.length : Int) := by omega
        have px := Uix i (by omega)
        have px1 := Uix (i + 1) hi
        have hcl : 2 * (colY p U[i]).length ≤ p.length := Rg.colY_len p U[i]
        have ih := ih (i + 1, o ++ emit ⟨U[i], U[i + 1], colY p U[i]⟩) (by show U.length - (i + 1) < U.length - i; omega) ⟨by show i + 1 ≤ U.length; omega, by
          show (o ++ emit ⟨U[i], U[i + 1], colY p U[i]⟩).length ≤ 100 * (i + 1)
          have e : (emit ⟨U[i], U[i + 1], colY p U[i]⟩).length = (colY p U[i]).length := List.length_map _
          rw [List.length_append, e]; omega⟩
        rw [strip_step hi, ← List.append_assoc]
        have hev := hev U[i]
        have hyl := hyl U[i]
        have hrw := rw7 U[i]
        have ecol : colY p U[i] = pairs (sortI (ysP p U[i])) := rfl
        obtain ⟨Y, hY⟩ : ∃ Y, sortI (ysP p U[i]) = Y := ⟨_, rfl⟩
        rw [ecol, hY] at hcl ih
        rw [ecol, hY]
        rw [hY] at hev hyl hrw
        have ee := Rg.ends_pairs hev
        have Yln : ∀ h, lenT .sl h (iO Y) = some (.int .i64 Y.length) := fun h => iO_len
        have Yix : ∀ (j : Nat) (hj : j < Y.length), indexAddrT (.sl 3 ⟨some false, some 1⟩) (iO Y) (.int .i64 (j : Int)) = some (cptr (.int .i64 Y[j])) := fun j hj => iO_index hj
        have Ybl : ∀ d n, below (d + 1) n (iO Y) = true := fun d n => iO_bel
        clear ecol hY
        generalize iO Y = YV at *
        generalize U[i] = x0 at *
        generalize U[i + 1] = x1 at *
        have hel := Rg.ends_len (pairs Y)
        rw [ee] at hel
        simp -implicitDefEqProofs [k33_11, -List.append_assoc, -Int.natCast_add] at ih
        simp -implicitDefEqProofs [r33_11, k33_11, Uln, hi, hi', wi, px, px1, ret1 m57, sv0, sett, hrw, -List.append_assoc, -Int.natCast_add]
        rw [LL_for (γ := List Rect) (pairs Y) o (fun j o' => [(7, rectR.sl 1 o'), (10, .int .i64 ((2 * j : Nat) : Int))]) (fun _ o' => [.dead, rectR.row 55 o'])
          (fun _ rest o' => (.exit 4, [(7, rectR.sl 1 (o' ++ emit ⟨x0, x1, rest⟩)), (10, undef)], [.dead, rectR.row 55 (o' ++ emit ⟨x0, x1, rest⟩)])) (fun j o' => o'.length = o.length + j) (by omega) rfl]
        · simp -implicitDefEqProofs [k33_15, wi, trim_le, bP, -List.append_assoc, -Int.natCast_add]
          exact ih
        · simp -implicitDefEqProofs [k33_15]
        · rfl
        · intro nx2 j o' hj _
          have w2 : IntKind.i64.wrap (((2 * j : Nat) : Int) + 1) = ((2 * j + 1 : Nat) : Int) := wrap64 (by omega) (by omega)
          have hjn : ¬ (((2 * j + 1 : Nat) : Int) < (Y.length : Int)) := by omega
          have hjn' : ¬ (2 * j + 1 < Y.length) := by omega
          have e0 : emit ⟨x0, x1, []⟩ = [] := rfl
          simp -implicitDefEqProofs [r33_15, k33_15, Yln, w2, hjn, hjn', e0, trim_le, -Int.natCast_add, -Int.natCast_mul]
        · intro nx2 j s rest o' hj hv hd hw ho ih2
          obtain ⟨g1, g2, g3, g4⟩ := ends_at7 hj
          simp only [ee] at g1 g2 g3 g4
          rw [hv] at g3 g4
          have st := fun h (hob : h[1]? = some (rectR.row 55 o')) => app_rect (h := h) (b := 1) (lo := 0) (c := o') ⟨x0, s.1, x1, s.2⟩ hob (Nat.zero_le _) (by omega)
          have w2 : IntKind.i64.wrap (((2 * j : Nat) : Int) + 1) = ((2 * j + 1 : Nat) : Int) := wrap64 (by omega) (by omega)
          have w3 : IntKind.i64.wrap (((2 * j : Nat) : Int) + 2) = ((2 * (j + 1) : Nat) : Int) := (wrap64 (by omega) (by omega)).trans (by omega)
          have hjn : ((2 * j + 1 : Nat) : Int) < (Y.length : Int) := by omega
          have hjn' : 2 * j + 1 < Y.length := by omega
          have ya := Yix (2 * j) g1
          have yb := Yix (2 * j + 1) g2
          rw [g3] at ya
          rw [g4] at yb
          have ih2 := ih2 (o' ++ [⟨x0, s.1, x1, s.2⟩]) (by rw [List.length_append]; show o'.length + 1 = _; omega)
          rw [emit_cons7, ← List.append_assoc]
          simp -implicitDefEqProofs [k33_15, -List.append_assoc, -Int.natCast_add, -Int.natCast_mul] at ih2
          simp -implicitDefEqProofs [r33_15, k33_15, Yln, wi, w2, w3, hjn, hjn', px, px1, ya, yb, b4_all, lit_rect, st, trim_le, -List.append_assoc, -Int.natCast_add, -Int.natCast_mul]
          exact ih2
      · have wi : IntKind.i64.wrap ((i : Int) + 1) = ((i + 1 : Nat) : Int) := (wrap64 (by omega) (by omega)).trans (by omega)
        have hi' : ¬ (((i + 1 : Nat) : Int) < (U.length : Int)) := by omega
        rw [strip_end hi, List.append_nil]
        simp -implicitDefEqProofs [r33_11, k33_11, Uln, wi, hi, hi', trim_le, -Int.natCast_add]
  · simp -implicitDefEqProofs [k33_5, Rec.sl_nil]
  · rfl
  · intro nx i c hi _
    simp -implicitDefEqProofs [r33_5, k33_5, hi, ln, trim_le]
  · intro nx i v rest c hi hv hd hw hc ih
    have hi' : (i : Int) < (p.length : Int) := by omega
    have pi := pix i hi
    rw [hv, span_val] at pi
    have ap := fun h (hob : h[0]? = some (intR.row 3 c)) => app_num (h := h) (b := 0) (lo := 0) (c := c) v.1 hob (Nat.le_refl _) (by omega)
    have ih := ih (c ++ [v.1]) (by simp; omega)
    have em : (v :: rest).map (·.1) = [v.1] ++ rest.map (·.1) := rfl
    rw [em, ← List.append_assoc]
    simp -implicitDefEqProofs [k33_5, -List.append_assoc] at ih
    simp -implicitDefEqProofs [r33_5, k33_5, hi, hi', ln, pi, lit_num, ap, hw, trim_le, -List.append_assoc]
    exact ih
end Go.Proofs.Ytimjfondgdhfcaa.Bm
namespace Go.Proofs.Ytimjfondgdhfcaa.Bm
open Go Go.RowKit
open Rg (Rect Pt Zn rightP polyL comA comP comS Once cell bestW isO namesF inL areaL baseS ovF)
theorem region7_o (x : Bool) (p : List Pt) (hp : p.length ≤ 1000000) : pureCall E.P (L E) 33 [lst x (spanR.vals p)] = some (.tuple ⟨[rectR.o (kR (polyX p)) (lR (polyX p)), .int .i64 (eR (polyX p))]⟩) := by
  rw [← resL_eq]; exact region7_spec x p hp
theorem rcells_spec (y : Bool) (z : Zn) (hz : z.cs.length ≤ 64) : pureCall E.P (L E) 23 [(znR y).val z] = some (rectR.o (kR (polyX z.cs)) (cellsZ z)) := by
  have hG := region7_o y z.cs (by omega)
  have sv : settled depth (lst y (spanR.vals z.cs)) = true := rfl
  rw [zn_val, pureCall_fn F23 rfl]
  unfold cellsZ
  by_cases he : eR (polyX z.cs) = 0
  · rw [he] at hG
    rw [polyX_ok he] at hG ⊢
    simp -implicitDefEqProofs [r23, padS, ret1 m33, sv, hG, Rec.o]
  · obtain ⟨e1, e2⟩ := polyX_err he
    rw [e1, e2] at hG ⊢
    simp -implicitDefEqProofs [r23, padS, ret1 m33, sv, hG, Rec.o, he]
end Go.Proofs.Ytimjfondgdhfcaa.Bm
namespace Go.Proofs.Ytimjfondgdhfcaa.Bm
open Go Go.RowKit
open Rg (Rect Pt Zn rightP polyL comA comP comS Once cell areaL ovF)
def twR (s : ByteArray) : List Zn → Bool
  | [] => false
  | w :: r => decide (s = w.nm) || twR s r
def twF : List Zn → Bool
  | [] => false
  | z :: r => twR z.nm r || twF r
def anyM (S : List ByteArray) : List Zn → Bool
  | [] => false
  | z :: r => memS S z.nm || anyM S r
theorem memS_app : ∀ (S : List ByteArray) (a s : ByteArray), memS (S ++ [a]) s = (memS S s || decide (a = s))
  | [], a, s => by show (decide (a = s) || false) = (false || decide (a = s)); rw [Bool.or_false, Bool.false_or]
  | b :: S, a, s => by
    show (decide (b = s) || memS (S ++ [a]) s) = (decide (b = s) || memS S s || decide (a = s))
    rw [memS_app S a s, Bool.or_assoc]
theorem anyM_app (S : List ByteArray) (a : ByteArray) : ∀ r : List Zn, anyM (S ++ [a]) r = (anyM S r || twR a r)
  | [] => rfl
  | z :: r => by
    show (memS (S ++ [a]) z.nm || anyM (S ++ [a]) r) = (memS S z.nm || anyM S r || (decide (a = z.nm) || twR a r))
    rw [memS_app, anyM_app S a r]
    cases memS S z.nm <;> cases anyM S r <;> cases decide (a = z.nm) <;> cases twR a r <;> rfl
theorem dup_tw : ∀ (zs : List Zn) (S : List ByteArray), dupZ S zs = (anyM S zs || twF zs)
  | [], _ => rfl
  | z :: r, S => by
    show (memS S z.nm || dupZ (S ++ [z.nm]) r) = (memS S z.nm || anyM S r || (twR z.nm r || twF r))
    rw [dup_tw r, anyM_app]
    cases memS S z.nm <;> cases anyM S r <;> cases twR z.nm r <;> cases twF r <;> rfl
theorem dup_twF (zs : List Zn) : dupZ [] zs = twF zs := by
  rw [dup_tw]
  have e : ∀ r : List Zn, anyM [] r = false := fun r => by
    induction r with
    | nil => rfl
    | cons z r ih => show (false || anyM [] r) = false; rw [ih]; rfl
  rw [e, Bool.false_or]
theorem form_head {A B : List Rect} (ra : regB A = true) (rb : regB B = true) : (refL andF A B = [] ∧ ¬ 0 < comA A B) ∨ ∃ r l, refL andF A B = r :: l ∧ 0 < comA A B ∧ (r.x0, r.y0) = comP A B (1048576, 0) := by
  obtain ⟨h1, h2⟩ := refL_ok andF rfl (fun r hr => ((reg_form ra).pos r hr).2) (fun r hr => ((reg_form rb).pos r hr).2)
  have hp := Rg.com_pos (reg_box ra) (reg_box rb)
  have e : ∀ x y, cell (refL andF A B) x y = (cell A x y && cell B x y) := h2
  cases hF : refL andF A B with
  | nil =>
    refine .inl ⟨rfl, fun h => ?_⟩
    obtain ⟨x, y, hxy⟩ := hp.1 h
    rw [← e, hF] at hxy
    exact absurd hxy Bool.false_ne_true
  | cons r l =>
    rw [hF] at h1 e
    have hl := Rg.form_least h1
    have hx : ∃ x y, (cell A x y && cell B x y) = true := ⟨_, _, by rw [← e]; exact hl.has⟩
    exact .inr ⟨r, l, rfl, hp.2 hx, (hl.congr e).uniq (Rg.com_least (reg_box ra) hx)⟩
theorem reg_pos {a : List Rect} (h : regB a = true) : ∀ r ∈ a, r.y0 < r.y1 := fun r hr => ((reg_form h).pos r hr).2
theorem reg_le {a : List Rect} (h : regB a = true) : a.length ≤ 500 := by have := (reg_ok h).2; omega
theorem form_pair (z w : Zn) (h : Heap) (lo : Nat) (hlo : lo ≤ h.length) : retCall E (L E) lo false 22 [rectR.o (kR (polyX z.cs)) (cellsZ z), rectR.o (kR (polyX w.cs)) (cellsZ w), .int .i64 1] h = some (rectR.sl h.length (refL andF (cellsZ z) (cellsZ w)), h ++ [rectR.row 55 (refL andF (cellsZ z) (cellsZ w))]) :=
  form_spec _ _ _ _ 1 andF (.inr (.inl ⟨rfl, rfl⟩)) (kR_ok _) (kR_ok _) (reg_le (cellsZ_reg z)) (reg_le (cellsZ_reg w)) (reg_pos (cellsZ_reg z)) (reg_pos (cellsZ_reg w)) h lo hlo
theorem com_base {z w : Zn} (h : 0 < comA (regZ z).2 (regZ w).2) : z.ov = false ∧ w.ov = false ∧ 0 < comA (cellsZ z) (cellsZ w) := by
  rw [regZ_snd, regZ_snd] at h
  cases hz : z.ov
  · rw [hz] at h
    cases hw : w.ov
    · rw [hw] at h; exact ⟨rfl, rfl, h⟩
    · rw [hw, if_neg Bool.false_ne_true, if_pos rfl, Rg.comA_nil_r] at h; exact absurd h (by decide)
  · rw [hz, if_pos rfl] at h; exact absurd h (by show ¬ (0 : Int) < 0; decide)
structure Rep (zs : List Zn) (LV : Value) (fnd : Bool) (at_ : Pt) : Prop where
  is : (ovF 0 (allL zs)).isSome = fnd
  no : fnd = false → LV = .slice none 0 0 ∧ at_ = (0, 0)
  yes : fnd = true → ∃ a b : Nat, ∃ hb : b < zs.length, ∃ hab : a < b, LV = lst true [.int .i64 (a : Int), .int .i64 (b : Int)] ∧ 0 < comA (cellsZ (zs[a]'(by omega))) (cellsZ zs[b])
  pair : ∀ i k (hk : k < zs.length) (hik : i < k), (zs[i]'(by omega)).ov = false → zs[k].ov = false → 0 < comA (cellsZ (zs[i]'(by omega))) (cellsZ zs[k]) → fnd = true ∧ ∃ a b : Nat, LV = lst true [.int .i64 (a : Int), .int .i64 (b : Int)] ∧ ¬ i < a ∧ ¬ (i = a ∧ k < b) ∧ (i = a → k = b → at_ = comP (cellsZ (zs[i]'(by omega))) (cellsZ zs[k]) (1048576, 0))
theorem overlap_rep (p : Pl) (hp : PlOk p) : ∃ LV fnd at_, pureCall E.P (L E) 10 [p.val] = some (.tuple ⟨[LV, .agg ⟨[.int .i64 at_.1, .int .i64 at_.2]⟩, .bool fnd]⟩) ∧ Rep p.zs LV fnd at_ := by
  have hs := overlap_spec p hp
  have al := allL_len p.zs
  have eb : ∀ i (hi : i < p.zs.length), p.zs[i].ov = false → (regZ p.zs[i]).2 = cellsZ p.zs[i] := fun i hi ho => by rw [regZ_snd, ho]; rfl
  cases ho : ovF 0 (allL p.zs) with
  | none =>
    rw [ho] at hs
    refine ⟨_, _, (0, 0), hs, by rw [ho]; rfl, fun _ => ⟨rfl, rfl⟩, fun h => absurd h Bool.false_ne_true, fun i k hk hik oi ok hc => ?_⟩
    have := Rg.ovF_none ho i k (by omega) hik
    rw [allL_get (by omega), allL_get hk, eb i (by omega) oi, eb k hk ok] at this
    exact absurd hc this
  | some q =>
    obtain ⟨a, b, pt⟩ := q
    rw [ho] at hs
    obtain ⟨j, k, h, hjk, h1, h2, h3, h4, h5⟩ := Rg.ovF_some ho
    rw [Nat.zero_add] at h1 h2
    subst h1 h2
    have hb : b < p.zs.length := by omega
    rw [allL_get (by omega), allL_get hb] at h3
    obtain ⟨o1, o2, c1⟩ := com_base h3
    refine ⟨_, _, pt, hs, by rw [ho]; rfl, fun h => absurd h (by decide), fun _ => ⟨a, b, hb, hjk, rfl, c1⟩, fun i k hk hik oi ok hc => ⟨rfl, a, b, rfl, fun q => ?_, fun q => ?_, fun e1 e2 => ?_⟩⟩
    · refine absurd ?_ (h5 i k (by omega) hik (.inl q))
      rw [allL_get (by omega), allL_get hk, eb i (by omega) oi, eb k hk ok]
      exact hc
    · refine absurd ?_ (h5 i k (by omega) hik (.inr q))
      rw [allL_get (by omega), allL_get hk, eb i (by omega) oi, eb k hk ok]
      exact hc
    · subst e1 e2
      rw [h4, allL_get (by omega), allL_get hk, eb i (by omega) oi, eb k hk ok]
end Go.Proofs.Ytimjfondgdhfcaa.Bm
