/-
  Chapter 07: the outlines of two examples, reckoned by the kernel. Conditions: none.
-/
import Derived.Test.YtealnmpboommhaaQ20
import Derived.Test.YtealnmpboommhaaQ19
import Derived.Test.YtealnmpboommhaaQ13
namespace Go.Proofs.Ytealnmpboommhaa.Bm
open Go Go.RowKit
open Rg (Rect Pt sidesP upS crossB onB sd okI okJ crI crJ rightP allFr allFr_step allFr_end)

theorem ub7 : E.P.underlying 4 = some .bool := by kernel_rfl
theorem beq (p q : Bool) : aBin E.P .eql 4 (.bool p) (.bool q) = some (.bool (p == q)) := bin_eql_bool ub7
theorem bne (p q : Bool) : aBin E.P .neq 4 (.bool p) (.bool q) = some (.bool (p != q)) := bin_neq_bool ub7
theorem side_index (p : List Pt) (j : Nat) (hj : j < p.length) : indexAddrT (.sl 54 ⟨some true, some 4⟩) (lst false (sideR.vals (sidesP p))) (.int .i64 (j : Int)) = some (cptr (sideR.val (sd p j))) := by
  have hs : j < (sidesP p).length := by rw [Rg.sides_len]; exact hj
  rw [Rg.sd_get hs]
  exact Rec.index_tree rfl hs
theorem sides_lenT (p : List Pt) (h : Heap) : lenT .sl h (lst false (sideR.vals (sidesP p))) = some (.int .i64 p.length) := by
  rw [Rec.tree_len, Rg.sides_len]
theorem pt_index (x : Bool) (p : List Pt) (j : Nat) (hj : j < p.length) : indexAddrT (.sl 30 ⟨some true, some 2⟩) (lst x (spanR.vals p)) (.int .i64 (j : Int)) = some (cptr (spanR.val (p.getD j (0, 0)))) := by
  have e : p.getD j (0, 0) = p[j] := by rw [List.getD_eq_getElem?_getD, List.getElem?_eq_getElem hj]; rfl
  rw [e]
  exact Rec.index_tree rfl hj
set_option maxHeartbeats 2000000 in
theorem pright_spec (x : Bool) (p : List Pt) (hp : p.length ≤ 1000000) : pureCall E.P (L E) 9 [lst x (spanR.vals p)] = some (.bool (rightP p)) := by
  have ln : ∀ h, lenT .sl h (lst x (spanR.vals p)) = some (.int .i64 p.length) := fun h => Rec.tree_len
  rw [pureCall_fn F9 rfl]
  by_cases h4 : p.length < 4
  · have h4' : (p.length : Int) < 4 := by omega
    have e : rightP p = false := by unfold rightP; rw [decide_eq_false (by omega)]; rfl
    rw [e]
    simp -implicitDefEqProofs [r9, p9, ln, h4, h4']
  by_cases h60 : 60 < p.length
  · have h60' : 60 < (p.length : Int) := by omega
    have h4' : ¬ ((p.length : Int) < 4) := by omega
    have e : rightP p = false := by unfold rightP; rw [decide_eq_false (show ¬ (p.length ≤ 60) by omega), Bool.and_false]; rfl
    rw [e]
    simp -implicitDefEqProofs [r9, p9, ln, h4, h4', h60, h60']
  have h4' : ¬ ((p.length : Int) < 4) := by omega
  have h60' : ¬ (60 < (p.length : Int)) := by omega
  have ar := around_spec x p (by omega)
  have sln := sides_lenT p
  have six := side_index p
  have pix := pt_index x p
  have hE : rightP p = (allFr (okI p) 0 p.length && (allFr (crI p) 0 p.length && !upS (sd p 0))) := by
    unfold rightP
    rw [decide_eq_true (show 4 ≤ p.length by omega), decide_eq_true (show p.length ≤ 60 by omega), Bool.true_and, Bool.true_and, Bool.and_assoc]
  rw [hE]
  clear hE
  generalize hSV : lst false (sideR.vals (sidesP p)) = SV at *
  generalize hPV : lst x (spanR.vals p) = PV at *
  have sv0 : settled depth PV = true := by rw [← hPV]; rfl
  simp -implicitDefEqProofs [r9, p9, ln, h4, h4', h60, h60', ret1 m24, sv0, ar, sln]
  rw [LL_rec (α := Nat) 0 (fun i => [(21, .int .i64 (i : Int))]) (fun _ => []) (fun i => if allFr (okI p) i (p.length - i) then (.exit 0, [(21, undef)], []) else (.ret, [(2, .bool false), (21, undef)], [])) (fun i => i ≤ p.length) (fun i => p.length - i)]
  · rw [Nat.sub_zero]
    cases hok : allFr (okI p) 0 p.length
    · simp -implicitDefEqProofs [k9_5, sln]
    simp -implicitDefEqProofs [k9_5, sln]
    rw [LL_rec (α := Nat) 0 (fun i => [(78, .int .i64 (i : Int))]) (fun _ => []) (fun i => if allFr (crI p) i (p.length - i) then (.exit 2, [(78, undef)], []) else (.ret, [(2, .bool false), (78, undef)], [])) (fun i => i ≤ p.length) (fun i => p.length - i)]
    · rw [Nat.sub_zero]
      have i0 := six 0 (by omega)
      rw [side_val] at i0
      have u0 := up_spec (sd p 0)
      generalize upS (sd p 0) = u at *
      cases hcr : allFr (crI p) 0 p.length
      · simp -implicitDefEqProofs [k9_14]
      · have i0' : indexAddrT (.sl 54 ⟨some true, some 4⟩) SV (.int .i64 0) = _ := i0
        simp -implicitDefEqProofs [k9_14, i0', ret0 m25, u0]
    · exact Nat.zero_le _
    · simp -implicitDefEqProofs [k9_14]
    · rfl
    · intro nx i hi ih
      by_cases h : i < p.length
      · have h' : (i : Int) < (p.length : Int) := by omega
        have ih := ih (i + 1) (by omega) (by omega)
        have wi : IntKind.i64.wrap ((i : Int) + 1) = (i : Int) + 1 := wrap64 (by omega) (by omega)
        have wi2 : IntKind.i64.wrap ((i : Int) + 2) = ((i + 2 : Nat) : Int) := (wrap64 (by omega) (by omega)).trans (by omega)
        have ii := six i h
        rw [side_val] at ii
        rw [allFr_step h]
        generalize hq : allFr (crI p) (i + 1) (p.length - (i + 1)) = q at ih ⊢
        have ecr : crI p i = allFr (crJ p i) (i + 2) (p.length - (i + 2)) := rfl
        rw [ecr]
        simp -implicitDefEqProofs [k9_14] at ih
        simp -implicitDefEqProofs [r9_14, k9_14, h, h', sln, wi2, -Int.natCast_add]
        rw [LL_rec (α := Nat) (i + 2) (fun k => [(8, .int .i64 (k : Int))]) (fun _ => []) (fun k => if allFr (crJ p i) k (p.length - k) then (.exit 4, [(8, undef)], []) else (.ret, [(2, .bool false), (8, undef)], [])) (fun k => i + 2 ≤ k) (fun k => p.length - k)]
        · cases allFr (crJ p i) (i + 2) (p.length - (i + 2))
          · simp -implicitDefEqProofs [k9_17, trim_le]
          · simp -implicitDefEqProofs [k9_17, wi, trim_le]
            exact ih
        · exact Nat.le_refl _
        · simp -implicitDefEqProofs [k9_17]
        · rfl
        · intro nx k hk ih
          by_cases hkn : k < p.length
          · have hkn' : (k : Int) < (p.length : Int) := by omega
            have ih := ih (k + 1) (by omega) (by omega)
            have wk : IntKind.i64.wrap ((k : Int) + 1) = (k : Int) + 1 := wrap64 (by omega) (by omega)
            have w1 : IntKind.i64.wrap ((i : Int) + (p.length : Int)) = (i : Int) + (p.length : Int) := wrap64 (by omega) (by omega)
            have w2 : IntKind.i64.wrap ((i : Int) + (p.length : Int) - (k : Int)) = (i : Int) + (p.length : Int) - (k : Int) := wrap64 (by omega) (by omega)
            have ik := six k hkn
            rw [side_val] at ik
            have cs := crosses_spec (sd p i) (sd p k)
            rw [allFr_step hkn]
            have ecj : crJ p i k = !(decide (1 < i + p.length - k) && crossB (sd p i) (sd p k)) := rfl
            rw [ecj]
            generalize crossB (sd p i) (sd p k) = cb at *
            generalize allFr (crJ p i) (k + 1) (p.length - (k + 1)) = qk at ih ⊢
            simp -implicitDefEqProofs [k9_17] at ih
            by_cases h1 : 1 < i + p.length - k
            · have h1' : 1 < (i : Int) + (p.length : Int) - (k : Int) := by omega
              cases cb
              · simp -implicitDefEqProofs [r9_17, k9_17, hkn, hkn', sln, w1, w2, h1, h1', ii, ik, ret0 m28, cs, wk, trim_le]
                exact ih
              · simp -implicitDefEqProofs [r9_17, k9_17, hkn, hkn', sln, w1, w2, h1, h1', ii, ik, ret0 m28, cs, wk, trim_le]
            · have h1' : ¬ (1 < (i : Int) + (p.length : Int) - (k : Int)) := by omega
              simp -implicitDefEqProofs [r9_17, k9_17, hkn, hkn', sln, w1, w2, h1, h1', ii, ik, wk, trim_le]
              exact ih
          · have hkn' : ¬ ((k : Int) < (p.length : Int)) := by omega
            rw [allFr_end (by omega)]
            simp -implicitDefEqProofs [r9_17, k9_17, hkn, hkn', sln, trim_le]
      · have h' : ¬ ((i : Int) < (p.length : Int)) := by omega
        rw [allFr_end (by omega)]
        simp -implicitDefEqProofs [r9_14, k9_14, h, h', sln, trim_le]
  · exact Nat.zero_le _
  · simp -implicitDefEqProofs [k9_5, sln]
  · rfl
  · intro nx i hi ih
    by_cases h : i < p.length
    · have h' : (i : Int) < (p.length : Int) := by omega
      have ih := ih (i + 1) (by omega) (by omega)
      have hm : (i + 1) % p.length < p.length := Nat.mod_lt _ (by omega)
      have wi : IntKind.i64.wrap ((i : Int) + 1) = ((i + 1 : Nat) : Int) := (wrap64 (by omega) (by omega)).trans (by omega)
      have rm := rem_nat (P := E.P) (t := 3) (m := i + 1) (n := p.length) (by omega)
      have ii := six i h
      have im := six _ hm
      have p0 := pix 0 (by omega)
      have p0' : indexAddrT (.sl 30 ⟨some true, some 2⟩) PV (.int .i64 0) = _ := p0
      have pI := pix i h
      rw [side_val] at ii im
      rw [span_val] at p0' pI
      have gs := grid_spec (sd p i).1
      have us := up_spec (sd p i)
      have un := up_spec (sd p ((i + 1) % p.length))
      have cp := compare_spec (p.getD 0 (0, 0)) (p.getD i (0, 0))
      have lt := cmpP_lt (p.getD 0 (0, 0)) (p.getD i (0, 0))
      rw [allFr_step h]
      have eok : okI p i = (onB (sd p i).1 && ((decide ((sd p i).1.1 = (sd p i).2.1) != decide ((sd p i).1.2 = (sd p i).2.2)) && (upS (sd p i) != upS (sd p ((i + 1) % p.length))) && (decide (i = 0) || Rg.ltP (p.getD 0 (0, 0)) (p.getD i (0, 0))))) := rfl
      rw [eok]
      clear p0 eok
      generalize hj : (i + 1) % p.length = j at *
      generalize p.getD 0 (0, 0) = a0 at *
      generalize p.getD i (0, 0) = ai at *
      generalize sd p i = s at *
      generalize sd p j = t at *
      obtain ⟨⟨sa, sb⟩, sc, se⟩ := s
      obtain ⟨⟨ta, tb⟩, tc, te⟩ := t
      generalize allFr (okI p) (i + 1) (p.length - (i + 1)) = qk at ih ⊢
      generalize cmpP a0 ai = cv at *
      generalize Rg.ltP a0 ai = lv at *
      generalize upS ((sa, sb), sc, se) = u1 at *
      generalize upS ((ta, tb), tc, te) = u2 at *
      simp only at ii im gs us un ⊢
      generalize onB (sa, sb) = g at *
      simp -implicitDefEqProofs [k9_5] at ih
      have bP : ∀ d n, below (d + 1) n PV = true := fun d n => by rw [← hPV]; rfl
      have bS : ∀ d n, below (d + 1) n SV = true := fun d n => by rw [← hSV]; rfl
      cases g
      · simp -implicitDefEqProofs [r9_5, k9_5, h, h', sln, ii, im, wi, rm, ret0 m26, gs, bP, bS, trim_cut, -Int.natCast_add]
      by_cases q1 : sa = sc
      · subst q1
        by_cases q2 : sb = se
        · subst q2
          simp -implicitDefEqProofs [r9_5, k9_5, h, h', sln, ii, im, wi, rm, ret0 m26, gs, beq, ret0 m25, us, un, bP, bS, trim_cut, -Int.natCast_add]
        · cases u1 <;> cases u2
          · simp -implicitDefEqProofs [r9_5, k9_5, h, h', sln, ii, im, wi, rm, ret0 m26, gs, beq, ret0 m25, us, un, q2, bP, bS, trim_cut, -Int.natCast_add]
          · by_cases i0 : i = 0
            · rw [decide_eq_true i0]
              have ip : ¬ (0 < (i : Int)) := by omega
              have ipn : ¬ (0 < i) := by omega
              simp -implicitDefEqProofs [r9_5, k9_5, h, h', sln, ii, im, wi, rm, ret0 m26, gs, beq, ret0 m25, us, un, q2, ip, ipn, bP, bS, trim_cut, -Int.natCast_add]
              exact ih
            · rw [decide_eq_false i0]
              have ip : 0 < (i : Int) := by omega
              have ipn : 0 < i := by omega
              cases lv
              · have c0 : 0 ≤ cv := by by_cases z : cv < 0; exact absurd (lt.1 z) (by decide); omega
                simp -implicitDefEqProofs [r9_5, k9_5, h, h', sln, ii, im, wi, rm, ret0 m26, gs, beq, ret0 m25, us, un, q2, ip, ipn, p0', pI, ret0 m27, cp, c0, bP, bS, trim_cut, -Int.natCast_add]
              · have c0 : ¬ (0 ≤ cv) := by have := lt.2 rfl; omega
                simp -implicitDefEqProofs [r9_5, k9_5, h, h', sln, ii, im, wi, rm, ret0 m26, gs, beq, ret0 m25, us, un, q2, ip, ipn, p0', pI, ret0 m27, cp, c0, bP, bS, trim_cut, -Int.natCast_add]
                exact ih
          · by_cases i0 : i = 0
            · rw [decide_eq_true i0]
              have ip : ¬ (0 < (i : Int)) := by omega
              have ipn : ¬ (0 < i) := by omega
              simp -implicitDefEqProofs [r9_5, k9_5, h, h', sln, ii, im, wi, rm, ret0 m26, gs, beq, ret0 m25, us, un, q2, ip, ipn, bP, bS, trim_cut, -Int.natCast_add]
              exact ih
            · rw [decide_eq_false i0]
              have ip : 0 < (i : Int) := by omega
              have ipn : 0 < i := by omega
              cases lv
              · have c0 : 0 ≤ cv := by by_cases z : cv < 0; exact absurd (lt.1 z) (by decide); omega
                simp -implicitDefEqProofs [r9_5, k9_5, h, h', sln, ii, im, wi, rm, ret0 m26, gs, beq, ret0 m25, us, un, q2, ip, ipn, p0', pI, ret0 m27, cp, c0, bP, bS, trim_cut, -Int.natCast_add]
              · have c0 : ¬ (0 ≤ cv) := by have := lt.2 rfl; omega
                simp -implicitDefEqProofs [r9_5, k9_5, h, h', sln, ii, im, wi, rm, ret0 m26, gs, beq, ret0 m25, us, un, q2, ip, ipn, p0', pI, ret0 m27, cp, c0, bP, bS, trim_cut, -Int.natCast_add]
                exact ih
          · simp -implicitDefEqProofs [r9_5, k9_5, h, h', sln, ii, im, wi, rm, ret0 m26, gs, beq, ret0 m25, us, un, q2, bP, bS, trim_cut, -Int.natCast_add]
      · by_cases q2 : sb = se
        · subst q2
          cases u1 <;> cases u2
          · simp -implicitDefEqProofs [r9_5, k9_5, h, h', sln, ii, im, wi, rm, ret0 m26, gs, beq, ret0 m25, us, un, q1, bP, bS, trim_cut, -Int.natCast_add]
          · by_cases i0 : i = 0
            · rw [decide_eq_true i0]
              have ip : ¬ (0 < (i : Int)) := by omega
              have ipn : ¬ (0 < i) := by omega
              simp -implicitDefEqProofs [r9_5, k9_5, h, h', sln, ii, im, wi, rm, ret0 m26, gs, beq, ret0 m25, us, un, q1, ip, ipn, bP, bS, trim_cut, -Int.natCast_add]
              exact ih
            · rw [decide_eq_false i0]
              have ip : 0 < (i : Int) := by omega
              have ipn : 0 < i := by omega
              cases lv
              · have c0 : 0 ≤ cv := by by_cases z : cv < 0; exact absurd (lt.1 z) (by decide); omega
                simp -implicitDefEqProofs [r9_5, k9_5, h, h', sln, ii, im, wi, rm, ret0 m26, gs, beq, ret0 m25, us, un, q1, ip, ipn, p0', pI, ret0 m27, cp, c0, bP, bS, trim_cut, -Int.natCast_add]
              · have c0 : ¬ (0 ≤ cv) := by have := lt.2 rfl; omega
                simp -implicitDefEqProofs [r9_5, k9_5, h, h', sln, ii, im, wi, rm, ret0 m26, gs, beq, ret0 m25, us, un, q1, ip, ipn, p0', pI, ret0 m27, cp, c0, bP, bS, trim_cut, -Int.natCast_add]
                exact ih
          · by_cases i0 : i = 0
            · rw [decide_eq_true i0]
              have ip : ¬ (0 < (i : Int)) := by omega
              have ipn : ¬ (0 < i) := by omega
              simp -implicitDefEqProofs [r9_5, k9_5, h, h', sln, ii, im, wi, rm, ret0 m26, gs, beq, ret0 m25, us, un, q1, ip, ipn, bP, bS, trim_cut, -Int.natCast_add]
              exact ih
            · rw [decide_eq_false i0]
              have ip : 0 < (i : Int) := by omega
              have ipn : 0 < i := by omega
              cases lv
              · have c0 : 0 ≤ cv := by by_cases z : cv < 0; exact absurd (lt.1 z) (by decide); omega
                simp -implicitDefEqProofs [r9_5, k9_5, h, h', sln, ii, im, wi, rm, ret0 m26, gs, beq, ret0 m25, us, un, q1, ip, ipn, p0', pI, ret0 m27, cp, c0, bP, bS, trim_cut, -Int.natCast_add]
              · have c0 : ¬ (0 ≤ cv) := by have := lt.2 rfl; omega
                simp -implicitDefEqProofs [r9_5, k9_5, h, h', sln, ii, im, wi, rm, ret0 m26, gs, beq, ret0 m25, us, un, q1, ip, ipn, p0', pI, ret0 m27, cp, c0, bP, bS, trim_cut, -Int.natCast_add]
                exact ih
          · simp -implicitDefEqProofs [r9_5, k9_5, h, h', sln, ii, im, wi, rm, ret0 m26, gs, beq, ret0 m25, us, un, q1, bP, bS, trim_cut, -Int.natCast_add]
        · simp -implicitDefEqProofs [r9_5, k9_5, h, h', sln, ii, im, wi, rm, ret0 m26, gs, beq, ret0 m25, us, un, q1, q2, bP, bS, trim_cut, -Int.natCast_add]
    · have h' : ¬ ((i : Int) < (p.length : Int)) := by omega
      rw [allFr_end (by omega)]
      simp -implicitDefEqProofs [r9_5, k9_5, h, h', sln, trim_le]
end Go.Proofs.Ytealnmpboommhaa.Bm

namespace Go.Proofs.Ytealnmpboommhaa.Bm
open Go Go.RowKit
open Rg (Rect scan scan_le putAt insN sortU edgesX)

/-! ### Lists of numbers that do not change, and rows of numbers -/
theorem g3 : aggT E.P 3 = some false := by kernel_rfl
theorem int_sl {b : Nat} {c d : List Int} (h : c.length = d.length) : intR.sl b c = intR.sl b d := by unfold Rec.sl; rw [h]
theorem int_index {g : Option Bool} {b : Nat} {l : List Int} {i : Nat} (h1 : i < l.length) : indexAddrT (.sl 3 ⟨g, some 1⟩) (intR.sl b l) (.int .i64 (i : Int)) = some (intR.at_ b l i 0) := Rec.index_row (R := intR) rfl h1
theorem int_load {h : Heap} {b : Nat} {l : List Int} {i : Nat} {sz : Option Nat} (hob : h[b]? = some (intR.row 3 l)) (h1 : i < l.length) : loadT ⟨some false, sz⟩ h (intR.at_ b l i 0) = some (.int .i64 l[i]) := Rec.load_cell (R := intR) (j := 0) hob h1 (by decide)
theorem lit_num (h : Heap) (z : Int) : buildSliceT (some ⟨3, 1, 8, .int .i64 0, ⟨some false, some 1⟩⟩) false h 1 #[(0, .int .i64 z)] = some (lst true [.int .i64 z], h) :=
  (build_lit' (n := 1) (l := [(0, .int .i64 z)]) rfl rfl (by decide) (by decide) (by decide)).trans rfl
theorem app_num {h : Heap} {b lo : Nat} {c : List Int} (z : Int) (hob : h[b]? = some (intR.row 3 c)) (hlo : lo ≤ b) (hc : c.length ≤ 1000000) :
    appendT (some ⟨3, 1, 8, .int .i64 0, ⟨some false, some 1⟩⟩) h lo false (intR.sl b c) (lst true [.int .i64 z]) = some (intR.sl b (c ++ [z]), h.set b (intR.row 3 (c ++ [z]))) :=
  Rec.app (R := intR) (m := [z]) rfl hob (cells_lst (by rfl)) hlo (by show (c.length + 1) * 8 ≤ 2 ^ 47; omega)

/-! ### A row while a place is made in it -/
end Go.Proofs.Ytealnmpboommhaa.Bm

namespace Go.Proofs.Ytealnmpboommhaa.Bm
open Go Go.RowKit
open Rg (Rect Slab Pt sidesP upS hB ysP colY polyL rightP sortU stripL outT emit pairs ends)

def polyX (p : List Pt) : Except Int (List Rect) := if rightP p then (if 200 < (polyL p).length then .error 6 else .ok (polyL p)) else .error 10
theorem ends_even7 : ∀ {c : List (Int × Int)} {j : Nat} (hj : j < c.length), (ends c)[2 * j]? = some c[j].1 ∧ (ends c)[2 * j + 1]? = some c[j].2
  | [], j, hj => by simp at hj
  | s :: c, 0, _ => ⟨rfl, rfl⟩
  | s :: c, j + 1, hj => ends_even7 (c := c) (j := j) (by simpa using hj)
theorem ends_at7 {c : List (Int × Int)} {j : Nat} (hj : j < c.length) : ∃ (h1 : 2 * j < (ends c).length) (h2 : 2 * j + 1 < (ends c).length), (ends c)[2 * j] = c[j].1 ∧ (ends c)[2 * j + 1] = c[j].2 := by
  have hl := Rg.ends_len c
  obtain ⟨e1, e2⟩ := ends_even7 hj
  refine ⟨by omega, by omega, ?_, ?_⟩
  · rw [List.getElem?_eq_getElem (by omega)] at e1; exact Option.some.inj e1
  · rw [List.getElem?_eq_getElem (by omega)] at e2; exact Option.some.inj e2
theorem emit_cons7 (x0 x1 : Int) (s : Int × Int) (c : List (Int × Int)) : emit ⟨x0, x1, s :: c⟩ = [⟨x0, s.1, x1, s.2⟩] ++ emit ⟨x0, x1, c⟩ := rfl
theorem strip_step {c : Int → List (Int × Int)} {U : List Int} {i : Nat} (h : i + 1 < U.length) : outT (stripL c (U.drop i)) = emit ⟨U[i], U[i + 1], c U[i]⟩ ++ outT (stripL c (U.drop (i + 1))) := by
  rw [List.drop_eq_getElem_cons (show i < U.length by omega), List.drop_eq_getElem_cons h]; rfl
theorem strip_end {c : Int → List (Int × Int)} {U : List Int} {i : Nat} (h : ¬ i + 1 < U.length) : outT (stripL c (U.drop i)) = [] := by
  have hl : (U.drop i).length ≤ 1 := by rw [List.length_drop]; omega
  match U.drop i, hl with
  | [], _ => rfl
  | [_], _ => rfl
theorem hB_up {x : Int} {s : Pt × Pt} (h : upS s = true) : hB x s = false := by
  unfold upS at h
  rw [decide_eq_true_eq] at h
  cases q : hB x s
  · rfl
  · rw [Rg.hB_iff] at q; omega
theorem sett (z : Int) : settled depth (.int .i64 z) = true := rfl
set_option maxHeartbeats 4000000 in
theorem pregion_spec (x : Bool) (p : List Pt) (hp : p.length ≤ 1000000) : pureCall E.P (L E) 8 [lst x (spanR.vals p)] = some (resL (polyX p)) := by
  have ln : ∀ h, lenT .sl h (lst x (spanR.vals p)) = some (.int .i64 p.length) := fun h => Rec.tree_len
  have hR := pright_spec x p hp
  have rf : ∀ h, reify E.P 8 h (lst x (spanR.vals p)) = some (lst x (spanR.vals p)) := fun _ => rfl
  have sv0 : settled depth (lst x (spanR.vals p)) = true := rfl
  have bP : ∀ d n, below (d + 1) n (lst x (spanR.vals p)) = true := fun d n => rfl
  have pix : ∀ (j : Nat) (hj : j < p.length), indexAddrT (.sl 30 ⟨some true, some 2⟩) (lst x (spanR.vals p)) (.int .i64 (j : Int)) = some (cptr (spanR.val p[j])) := fun j hj => Rec.index_tree rfl hj
  rw [pureCall_fn F8 rfl]
  unfold polyX
  generalize hPV : lst x (spanR.vals p) = PV at *
  cases hr : rightP p
  · rw [hr] at hR
    simp -implicitDefEqProofs [r8, p8, ret0 m9, rf, hR, resL]
  rw [hr] at hR
  obtain ⟨hp4, hp60⟩ := Rg.rightP_len hr
  simp -implicitDefEqProofs [r8, p8, ret0 m9, rf, hR, prep_new, newK_nil s3, ln]
  rw [LL_for (γ := List Int) p [] (fun i c => [(4, intR.sl 0 c), (19, .int .i64 i)]) (fun _ c => [intR.row 3 c])
    (fun _ rest c => (.exit 0, [(4, intR.sl 0 (c ++ rest.map (·.1))), (19, undef)], [intR.row 3 (c ++ rest.map (·.1))])) (fun i c => c.length = i) (by omega) rfl]
  · rw [List.nil_append]
    have hxl : (p.map (·.1)).length = p.length := List.length_map _
    have hU : (sortU (p.map (·.1))).length ≤ p.length := by
      have := Rg.sortU_le (p.map (·.1)); omega
    have so := sortInts (h := [intR.row 3 (p.map (·.1))]) (b := 0) (lo := 0) (d := p.map (·.1)) rfl (Nat.le_refl _) (by omega)
    obtain ⟨r, co, hrl⟩ := compInts (h := [intR.row 3 (sortI (p.map (·.1)))]) (b := 0) (lo := 0) (d := sortI (p.map (·.1))) rfl (Nat.le_refl _) (by rw [sortI_len]; omega)
    rw [Rg.comp_sort] at co hrl
    have e1 : intR.sl 0 (sortI (p.map (·.1))) = intR.sl 0 (p.map (·.1)) := by unfold Rec.sl; rw [sortI_len]
    rw [e1, sortI_len, hxl] at co
    rw [sortI_len, hxl] at hrl
    have ar : pureCall E.P (L E) 24 [PV] = some (lst false (sideR.vals (sidesP p))) := by rw [← hPV]; exact around_spec x p (by omega)
    have sln := sides_lenT p
    have bS : ∀ d n, below (d + 1) n (lst false (sideR.vals (sidesP p))) = true := fun d n => rfl
    have six : ∀ (j : Nat) (hj : j < (sidesP p).length), indexAddrT (.sl 54 ⟨some true, some 4⟩) (lst false (sideR.vals (sidesP p))) (.int .i64 (j : Int)) = some (cptr (sideR.val (sidesP p)[j])) := fun j hj => Rec.index_tree rfl hj
    have hsl := Rg.sides_len p
    have ePL : polyL p = outT (stripL (colY p) (sortU (p.map (·.1)))) := rfl
    rw [ePL]
    have hev : ∀ x, (sortI (ysP p x)).length % 2 = 0 := fun x => by rw [sortI_len]; exact Rg.ys_even p x
    have hyl : ∀ x, (ysP p x).length ≤ p.length := fun x => Rg.ys_len p x
    have wl : IntKind.i64.wrap (((sortU (p.map (·.1))).length : Int) - 1) = ((sortU (p.map (·.1))).length : Int) - 1 := wrap64 (by omega) (by omega)
    simp -implicitDefEqProofs [k8_5, wl, ret2 (E := E) (f := 22) rfl, ret2 (E := E) (f := 23) rfl, so, co, ret1 m24, sv0, ar, prep_new, newK_nil s32, pre_len]
    generalize hSV : lst false (sideR.vals (sidesP p)) = SV at *
    generalize sortU (p.map (·.1)) = U at *
    clear so co e1 ePL hxl hR
    rw [LL_rec (α := Nat × List Rect) (0, []) (fun c => [(8, rectR.sl 1 c.2), (38, .int .i64 (c.1 : Int))]) (fun c => [intR.row 3 (U ++ r), rectR.row 48 c.2])
      (fun c => (.exit 2, [(8, rectR.sl 1 (c.2 ++ outT (stripL (colY p) (U.drop c.1)))), (38, undef)], [intR.row 3 (U ++ r), rectR.row 48 (c.2 ++ outT (stripL (colY p) (U.drop c.1)))])) (fun c => c.1 ≤ U.length ∧ c.2.length ≤ 100 * c.1) (fun c => U.length - c.1)]
    · rw [List.drop_zero, List.nil_append]
      generalize outT (stripL (colY p) U) = F
      have rr := Rec.reify_row (R := rectR) (P := E.P) (h := [intR.row 3 (U ++ r), rectR.row 48 F]) (b := 1) (n := 7) (t := 48) (l := F) rfl s32 a32
      by_cases h2 : 200 < F.length
      · have h2' : 200 < (F.length : Int) := by omega
        simp -implicitDefEqProofs [k8_14, Rec.sl_len, h2, h2', resL]
      · have h2' : ¬ (200 < (F.length : Int)) := by omega
        simp -implicitDefEqProofs [k8_14, Rec.sl_len, h2, h2', rr, resL]
    · exact ⟨Nat.zero_le _, Nat.zero_le _⟩
    · simp -implicitDefEqProofs [k8_14, Rec.sl_nil]
    · rfl
    · intro nx c hc ih
      obtain ⟨i, o⟩ := c
      obtain ⟨h1, h2⟩ := hc
      simp only at h1 h2
      by_cases hi : i + 1 < U.length
      · have hi' : (i : Int) < (U.length : Int) - 1 := by omega
        have wi : IntKind.i64.wrap ((i : Int) + 1) = ((i + 1 : Nat) : Int) := (wrap64 (by omega) (by omega)).trans (by omega)
        have px := pre_index (t := 3) (g := some false) (b := 0) (n := p.length) (k := .i64) (e := U) (i := i) (by omega)
        have px1 := pre_index (t := 3) (g := some false) (b := 0) (n := p.length) (k := .i64) (e := U) hi
        have pl := fun a b => pre_load (h := [intR.row 3 (U ++ r), a, b]) (b := 0) (n := p.length) (sz := some 1) (e := U) (i := i) rfl hrl (by omega)
        have pl2 := fun a b c => pre_load (h := [intR.row 3 (U ++ r), a, b, c]) (b := 0) (n := p.length) (sz := some 1) (e := U) (i := i) rfl hrl (by omega)
        have pl1 := fun a b => pre_load (h := [intR.row 3 (U ++ r), a, b]) (b := 0) (n := p.length) (sz := some 1) (e := U) rfl hrl hi
        have hcl : 2 * (colY p U[i]).length ≤ p.length := Rg.colY_len p U[i]
        have ih := ih (i + 1, o ++ emit ⟨U[i], U[i + 1], colY p U[i]⟩) (by show U.length - (i + 1) < U.length - i; omega) ⟨by show i + 1 ≤ U.length; omega, by
          show (o ++ emit ⟨U[i], U[i + 1], colY p U[i]⟩).length ≤ 100 * (i + 1)
          have e : (emit ⟨U[i], U[i + 1], colY p U[i]⟩).length = (colY p U[i]).length := List.length_map _
          rw [List.length_append, e]; omega⟩
        rw [strip_step hi, ← List.append_assoc]
        have ecol : colY p U[i] = pairs (sortI (ysP p U[i])) := rfl
        have eys : ysP p U[i] = ((sidesP p).filter (hB U[i])).map (fun s => s.1.2) := rfl
        have hev := hev U[i]
        have hyl := hyl U[i]
        have ee := Rg.ends_pairs hev
        rw [ecol] at ih ⊢
        generalize hx0 : U[i] = x0 at *
        generalize hx1 : U[i + 1] = x1 at *
        generalize outT (stripL (colY p) (U.drop (i + 1))) = F at *
        simp -implicitDefEqProofs [k8_14, -List.append_assoc] at ih
        simp -implicitDefEqProofs [r8_14, k8_14, pre_len, wl, hi, hi', prep_new, newK_nil s3, sln, -List.append_assoc]
        rw [LL_for (γ := List Int) (sidesP p) [] (fun j c => [(10, intR.sl 2 c), (43, .int .i64 j)]) (fun _ c => [intR.row 3 (U ++ r), rectR.row 48 o, intR.row 3 c])
          (fun _ rest c => (.exit 4, [(10, intR.sl 2 (c ++ (rest.filter (hB x0)).map (fun s => s.1.2))), (43, undef)], [intR.row 3 (U ++ r), rectR.row 48 o, intR.row 3 (c ++ (rest.filter (hB x0)).map (fun s => s.1.2))])) (fun j c => c.length ≤ j) (by omega) (Nat.le_refl _)]
        · rw [List.nil_append, ← eys]
          have so2 := sortInts (h := [intR.row 3 (U ++ r), rectR.row 48 o, intR.row 3 (ysP p x0)]) (b := 2) (lo := 0) (d := ysP p x0) rfl (Nat.zero_le _) (by omega)
          have hLl : (sortI (ysP p x0)).length = (ysP p x0).length := sortI_len _
          have esl : intR.sl 2 (sortI (ysP p x0)) = intR.sl 2 (ysP p x0) := int_sl hLl
          generalize ysP p x0 = Y at *
          generalize sortI Y = Lq at *
          have hel := Rg.ends_len (pairs Lq)
          rw [ee] at hel
          have ixL := fun (j : Nat) (hj : j < Lq.length) => int_index (g := some false) (b := 2) (l := Lq) hj
          rw [esl] at ixL
          simp -implicitDefEqProofs [k8_18, ret2 (E := E) (f := 22) rfl, so2, -List.append_assoc]
          rw [LL_for (γ := List Rect) (pairs Lq) o (fun j o' => [(8, rectR.sl 1 o'), (13, .int .i64 ((2 * j : Nat) : Int))]) (fun _ o' => [intR.row 3 (U ++ r), rectR.row 48 o', intR.row 3 Lq])
            (fun _ rest o' => (.exit 6, [(8, rectR.sl 1 (o' ++ emit ⟨x0, x1, rest⟩)), (13, undef)], [intR.row 3 (U ++ r), rectR.row 48 (o' ++ emit ⟨x0, x1, rest⟩), intR.row 3 Lq])) (fun j o' => o'.length = o.length + j) (by omega) rfl]
          · simp -implicitDefEqProofs [k8_25, wi, trim_cut, bP, bS, Rec.sl_bel, Rec.row_bel, pre_bel, -List.append_assoc, -Int.natCast_add]
            exact ih
          · simp -implicitDefEqProofs [k8_25]
          · rfl
          · intro nx j o' hj _
            have w2 : IntKind.i64.wrap (((2 * j : Nat) : Int) + 1) = ((2 * j + 1 : Nat) : Int) := wrap64 (by omega) (by omega)
            have hjn : ¬ (((2 * j + 1 : Nat) : Int) < (Y.length : Int)) := by omega
            have hjn' : ¬ (2 * j + 1 < Y.length) := by omega
            have e0 : emit ⟨x0, x1, []⟩ = [] := rfl
            simp -implicitDefEqProofs [r8_25, k8_25, Rec.sl_len, w2, hjn, hjn', e0, trim_le, -Int.natCast_add, -Int.natCast_mul]
          · intro nx j s rest o' hj hv hd hw ho ih
            obtain ⟨g1, g2, g3, g4⟩ := ends_at7 hj
            simp only [ee] at g1 g2 g3 g4
            rw [hv] at g3 g4
            have st := app_rect (h := [intR.row 3 (U ++ r), rectR.row 48 o', intR.row 3 Lq]) (b := 1) (lo := 0) (c := o') ⟨x0, s.1, x1, s.2⟩ rfl (Nat.zero_le _) (by omega)
            have w2 : IntKind.i64.wrap (((2 * j : Nat) : Int) + 1) = ((2 * j + 1 : Nat) : Int) := wrap64 (by omega) (by omega)
            have w3 : IntKind.i64.wrap (((2 * j : Nat) : Int) + 2) = ((2 * (j + 1) : Nat) : Int) := (wrap64 (by omega) (by omega)).trans (by omega)
            have hjn : ((2 * j + 1 : Nat) : Int) < (Y.length : Int) := by omega
            have hjn' : 2 * j + 1 < Y.length := by omega
            have ixa := ixL (2 * j) g1
            have ixb := ixL (2 * j + 1) g2
            have lda := int_load (h := [intR.row 3 (U ++ r), rectR.row 48 o', intR.row 3 Lq]) (b := 2) (l := Lq) (i := 2 * j) (sz := some 1) rfl g1
            have ldb := int_load (h := [intR.row 3 (U ++ r), rectR.row 48 o', intR.row 3 Lq]) (b := 2) (l := Lq) (i := 2 * j + 1) (sz := some 1) rfl g2
            rw [g3] at lda
            rw [g4] at ldb
            have ih := ih (o' ++ [⟨x0, s.1, x1, s.2⟩]) (by rw [List.length_append]; show o'.length + 1 = _; omega)
            rw [emit_cons7, ← List.append_assoc]
            simp -implicitDefEqProofs [k8_25, -List.append_assoc, -Int.natCast_add, -Int.natCast_mul] at ih
            simp -implicitDefEqProofs [r8_25, k8_25, Rec.sl_len, wi, w2, w3, hjn, hjn', px, pl, px1, pl1, ixa, ixb, lda, ldb, b4_all, lit_rect, st, trim_le, -List.append_assoc, -Int.natCast_add, -Int.natCast_mul]
            exact ih
        · simp -implicitDefEqProofs [k8_18, Rec.sl_nil]
        · rfl
        · intro nx j c hj _
          simp -implicitDefEqProofs [r8_18, k8_18, hj, sln, hsl, trim_le]
        · intro nx j s rest c hj hv hd hw hc ih
          have sj := six j hj
          rw [hv, side_val] at sj
          have us := up_spec s
          have hjp : j < p.length := by omega
          have ap := fun q => app_num (h := [intR.row 3 (U ++ r), rectR.row 48 o, intR.row 3 c, q]) (b := 2) (lo := 0) (c := c) s.1.2 rfl (Nat.zero_le _) (by omega)
          cases hu : upS s
          · rw [hu] at us
            by_cases m1 : min s.1.1 s.2.1 ≤ x0
            · by_cases m2 : x0 < max s.1.1 s.2.1
              · have ih := ih (c ++ [s.1.2]) (by simp; omega)
                rw [List.filter_cons_of_pos (Rg.hB_iff.2 ⟨m1, m2⟩), List.map_cons, show c ++ s.1.2 :: (rest.filter (hB x0)).map (fun s => s.1.2) = c ++ [s.1.2] ++ (rest.filter (hB x0)).map (fun s => s.1.2) by rw [List.append_assoc]; rfl]
                simp -implicitDefEqProofs [k8_18, -List.append_assoc] at ih
                simp -implicitDefEqProofs [r8_18, k8_18, hj, hjp, sln, hsl, sj, ret0 m25, us, px, pl2, min_int, max_int, m1, m2, lit_num, ap, hw, trim_cut, bP, bS, Rec.sl_bel, Rec.row_bel, pre_bel, -List.append_assoc]
                exact ih
              · have ih := ih c (by omega)
                rw [List.filter_cons_of_neg (by rw [Rg.hB_iff]; omega)]
                simp -implicitDefEqProofs [k8_18, -List.append_assoc] at ih
                simp -implicitDefEqProofs [r8_18, k8_18, hj, hjp, sln, hsl, sj, ret0 m25, us, px, pl2, min_int, max_int, m1, m2, hw, trim_cut, bP, bS, Rec.sl_bel, Rec.row_bel, pre_bel, -List.append_assoc]
                exact ih
            · have ih := ih c (by omega)
              rw [List.filter_cons_of_neg (by rw [Rg.hB_iff]; omega)]
              simp -implicitDefEqProofs [k8_18, -List.append_assoc] at ih
              simp -implicitDefEqProofs [r8_18, k8_18, hj, hjp, sln, hsl, sj, ret0 m25, us, px, pl2, min_int, max_int, m1, hw, trim_cut, bP, bS, Rec.sl_bel, Rec.row_bel, pre_bel, -List.append_assoc]
              exact ih
          · rw [hu] at us
            have ih := ih c (by omega)
            rw [List.filter_cons_of_neg (by rw [hB_up hu]; decide)]
            simp -implicitDefEqProofs [k8_18, -List.append_assoc] at ih
            simp -implicitDefEqProofs [r8_18, k8_18, hj, hjp, sln, hsl, sj, ret0 m25, us, px, pl2, min_int, max_int, hw, trim_cut, bP, bS, Rec.sl_bel, Rec.row_bel, pre_bel, -List.append_assoc]
            exact ih
      · have hi' : ¬ ((i : Int) < (U.length : Int) - 1) := by omega
        rw [strip_end hi, List.append_nil]
        simp -implicitDefEqProofs [r8_14, k8_14, pre_len, wl, hi, hi', trim_le]
  · simp -implicitDefEqProofs [k8_5, Rec.sl_nil]
  · rfl
  · intro nx i c hi _
    simp -implicitDefEqProofs [r8_5, k8_5, hi, ln, trim_le]
  · intro nx i v rest c hi hv hd hw hc ih
    have pi := pix i hi
    rw [hv, span_val] at pi
    have ap := fun q => app_num (h := [intR.row 3 c, q]) (b := 0) (lo := 0) (c := c) v.1 rfl (Nat.le_refl _) (by omega)
    have ih := ih (c ++ [v.1]) (by simp; omega)
    have em : (v :: rest).map (·.1) = [v.1] ++ rest.map (·.1) := rfl
    rw [em, ← List.append_assoc]
    simp -implicitDefEqProofs [k8_5, -List.append_assoc] at ih
    simp -implicitDefEqProofs [r8_5, k8_5, hi, ln, pi, lit_num, ap, hw, trim_cut, bP, Rec.sl_bel, Rec.row_bel, -List.append_assoc]
    exact ih
end Go.Proofs.Ytealnmpboommhaa.Bm

namespace Go.Proofs.Ytealnmpboommhaa.Bm
open Go Go.RowKit
open Rg (Rect Pt sidesP shoe sumZ shoeP shR rightP)

def areaP (p : List Pt) : Int := if rightP p then (shoeP p).tdiv 2 else 0
theorem shoe_le {s : Pt × Pt} (h1 : Rg.onG s.1) (h2 : Rg.onG s.2) : 0 ≤ s.1.1 * s.2.2 ∧ s.1.1 * s.2.2 ≤ 1099511627776 ∧ 0 ≤ s.2.1 * s.1.2 ∧ s.2.1 * s.1.2 ≤ 1099511627776 := by
  obtain ⟨⟨a, b⟩, c, d⟩ := s
  obtain ⟨a0, a1, b0, b1⟩ := h1
  obtain ⟨c0, c1, d0, d1⟩ := h2
  simp only at *
  exact ⟨Int.mul_nonneg a0 d0, Int.le_trans (Int.mul_le_mul a1 d1 d0 (by decide)) (by decide), Int.mul_nonneg c0 b0, Int.le_trans (Int.mul_le_mul c1 b1 b0 (by decide)) (by decide)⟩
set_option maxHeartbeats 1000000 in
theorem parea_spec (x : Bool) (p : List Pt) (hp : p.length ≤ 1000000) : pureCall E.P (L E) 13 [lst x (spanR.vals p)] = some (.int .i64 (areaP p)) := by
  have hR := pright_spec x p hp
  have rf : ∀ h, reify E.P 8 h (lst x (spanR.vals p)) = some (lst x (spanR.vals p)) := fun _ => rfl
  have sv0 : settled depth (lst x (spanR.vals p)) = true := rfl
  have bP : ∀ d n, below (d + 1) n (lst x (spanR.vals p)) = true := fun d n => rfl
  unfold areaP
  rw [pureCall_fn F13 rfl]
  cases hr : rightP p
  · rw [hr] at hR
    simp -implicitDefEqProofs [r13, p13, ret0 m9, rf, hR]
  rw [hr] at hR
  have hpo := Rg.rightP_poly hr
  obtain ⟨hp4, hp60⟩ := Rg.rightP_len hr
  have ar := around_spec x p (by omega)
  have sln := sides_lenT p
  have hsl := Rg.sides_len p
  have bS : ∀ d n, below (d + 1) n (lst false (sideR.vals (sidesP p))) = true := fun d n => rfl
  have six : ∀ (j : Nat) (hj : j < (sidesP p).length), indexAddrT (.sl 54 ⟨some true, some 4⟩) (lst false (sideR.vals (sidesP p))) (.int .i64 (j : Int)) = some (cptr (sideR.val (sidesP p)[j])) := fun j hj => Rec.index_tree rfl hj
  generalize hPV : lst x (spanR.vals p) = PV at *
  generalize hSV : lst false (sideR.vals (sidesP p)) = SV at *
  simp -implicitDefEqProofs [r13, p13, ret0 m9, rf, hR, ret1 m24, sv0, ar, sln]
  rw [LL_for (γ := Int) (sidesP p) 0 (fun i c => [(3, .int .i64 c), (12, .int .i64 i)]) (fun _ _ => []) (fun _ rest c => (.exit 0, [(3, .int .i64 (c + sumZ shoe rest)), (12, undef)], [])) (fun i c => -2000000000000 * i ≤ c ∧ c ≤ 2000000000000 * i) (by omega) (by omega)]
  · have e : (0 : Int) + sumZ shoe (sidesP p) = shoeP p := Int.zero_add _
    rw [e]
    have hb : -1000000000000000 ≤ shoeP p ∧ shoeP p ≤ 1000000000000000 := by
      have key : ∀ l : List (Pt × Pt), (∀ s ∈ l, s ∈ sidesP p) → -2000000000000 * (l.length : Int) ≤ sumZ shoe l ∧ sumZ shoe l ≤ 2000000000000 * (l.length : Int) := by
        intro l
        induction l with
        | nil => intro _; exact ⟨by decide, by decide⟩
        | cons s l ih =>
          intro h
          have ih := ih fun t ht => h t (List.mem_cons_of_mem _ ht)
          obtain ⟨m1, m2⟩ := Rg.sides_mem (h s (List.mem_cons_self ..))
          have q := shoe_le (hpo.grid _ m1) (hpo.grid _ m2)
          have es : sumZ shoe (s :: l) = (s.1.1 * s.2.2 - s.2.1 * s.1.2) + sumZ shoe l := rfl
          have el : ((s :: l).length : Int) = (l.length : Int) + 1 := by simp
          rw [es, el]
          omega
      have := key (sidesP p) fun _ h => h
      rw [hsl] at this
      unfold shoeP
      omega
    have wq : IntKind.i64.wrap ((shoeP p).tdiv 2) = (shoeP p).tdiv 2 := by
      have h1 : (shoeP p).tdiv 2 ≤ 1000000000000000 ∧ -1000000000000000 ≤ (shoeP p).tdiv 2 := by
        rcases Int.le_total 0 (shoeP p) with h | h
        · rw [Int.tdiv_eq_ediv_of_nonneg h]; omega
        · obtain ⟨y, hy⟩ : ∃ y, shoeP p = -y := ⟨-shoeP p, by omega⟩
          rw [hy, Int.neg_tdiv, Int.tdiv_eq_ediv_of_nonneg (by omega)]; omega
      exact wrap64 (by omega) (by omega)
    generalize shoeP p = z at *
    simp -implicitDefEqProofs [k13_5, bin_quo, wq]
  · simp -implicitDefEqProofs [k13_5]
  · rfl
  · intro nx i c hi _
    simp -implicitDefEqProofs [r13_5, k13_5, hi, hsl, trim_le, sumZ]
  · intro nx i s rest c hi hv hd hw hc ih
    have sj := six i hi
    rw [hv, side_val] at sj
    have hip : i < p.length := by omega
    obtain ⟨m1, m2⟩ := Rg.sides_mem (by rw [← hv]; exact List.getElem_mem hi : s ∈ sidesP p)
    have q := shoe_le (hpo.grid _ m1) (hpo.grid _ m2)
    have ea : c + sumZ shoe (s :: rest) = (c + (s.1.1 * s.2.2 - s.2.1 * s.1.2)) + sumZ shoe rest := by
      show c + ((s.1.1 * s.2.2 - s.2.1 * s.1.2) + sumZ shoe rest) = _
      omega
    rw [ea]
    have ih := ih (c + (s.1.1 * s.2.2 - s.2.1 * s.1.2)) (by push_cast; omega)
    have hl : (i : Int) < 60 := by omega
    have wu : IntKind.i64.wrap (s.1.1 * s.2.2) = s.1.1 * s.2.2 := wrap64 (by omega) (by omega)
    have wv : IntKind.i64.wrap (s.2.1 * s.1.2) = s.2.1 * s.1.2 := wrap64 (by omega) (by omega)
    have wd : IntKind.i64.wrap (s.1.1 * s.2.2 - s.2.1 * s.1.2) = s.1.1 * s.2.2 - s.2.1 * s.1.2 := wrap64 (by omega) (by omega)
    have wc : IntKind.i64.wrap (c + (s.1.1 * s.2.2 - s.2.1 * s.1.2)) = c + (s.1.1 * s.2.2 - s.2.1 * s.1.2) := wrap64 (by omega) (by omega)
    simp -implicitDefEqProofs [k13_5] at ih
    simp -implicitDefEqProofs [r13_5, k13_5, hi, hip, hsl, sj, wu, wv, wd, wc, hw, trim_cut, bP, bS]
    exact ih
end Go.Proofs.Ytealnmpboommhaa.Bm

namespace Go.Proofs.Ytealnmpboommhaa.Bm
open Go Go.RowKit
open Rg (Rect shR)

/-- Moving all of a list. -/
def shiftL (dx dy : Int) (a : List Rect) : List Rect := a.map (shR dx dy)
def shiftX (a : List Rect) (dx dy : Int) : Except Int (List Rect) :=
  if regB a then (if 0 < a.length ∧ (1048576 < max dx dy ∨ min dx dy < -1048576) then .error 3 else if (shiftL dx dy a).all okR then .ok (shiftL dx dy a) else .error 3) else .error 1
/-- The list while it is moved, up to one that leaves the grid. -/
def stopS (dx dy : Int) : List Rect → List Rect → Bool × List Rect
  | [], c => (true, c)
  | r :: l, c => if okR (shR dx dy r) then stopS dx dy l (c ++ [shR dx dy r]) else (false, c)
theorem stopS_eq (dx dy : Int) : ∀ (l c : List Rect), (stopS dx dy l c).1 = (shiftL dx dy l).all okR ∧ ((stopS dx dy l c).1 = true → (stopS dx dy l c).2 = c ++ shiftL dx dy l)
  | [], c => ⟨rfl, fun _ => (List.append_nil c).symm⟩
  | r :: l, c => by
    have e : (shiftL dx dy (r :: l)).all okR = (okR (shR dx dy r) && (shiftL dx dy l).all okR) := rfl
    rw [e]
    unfold stopS
    cases h : okR (shR dx dy r)
    · exact ⟨rfl, fun h => by cases h⟩
    · obtain ⟨h1, h2⟩ := stopS_eq dx dy l (c ++ [shR dx dy r])
      rw [if_pos rfl]
      refine ⟨by rw [h1]; rfl, fun h => ?_⟩
      rw [h2 h, List.append_assoc]; rfl
def stopQ (s : Bool × List Rect) : Exit × List (Nat × Value) × Heap := if s.1 then (.exit 0, [(8, rectR.sl 0 s.2), (31, undef)], [rectR.row 48 s.2]) else (.ret, [(6, .slice none 0 0), (7, .int .i64 3), (8, rectR.sl 0 s.2), (31, undef)], [rectR.row 48 s.2])
set_option maxHeartbeats 1000000 in
theorem shift_spec (k : Option Bool) (a : List Rect) (dx dy : Int) (hk : Rec.Ok k a) (ha : a.length ≤ 1000000) : pureCall E.P (L E) 12 [rectR.o k a, .int .i64 dx, .int .i64 dy] = some (resL (shiftX a dx dy)) := by
  have hR := right2_spec k a hk ha
  unfold shiftX
  rw [pureCall_fn F12 rfl]
  cases hr : regB a
  · rw [hr] at hR
    simp -implicitDefEqProofs [r12, p12, ret0 m10, Rec.o_reify, hR, resL]
  rw [hr] at hR
  have hbox : ∀ r ∈ a, r.inBox 1048576 := fun r hr' => okR_iff.1 (List.all_eq_true.1 (regB_iff.1 hr).1 r hr')
  generalize hall : (shiftL dx dy a).all okR = qa
  by_cases h0 : 0 < a.length
  · have h0' : 0 < (a.length : Int) := by omega
    by_cases h1 : 1048576 < max dx dy
    · simp -implicitDefEqProofs [r12, p12, ret0 m10, Rec.o_reify, hR, Rec.o_len hk, h0, h0', max_int, min_int, h1, resL]
    by_cases h2 : min dx dy < -1048576
    · simp -implicitDefEqProofs [r12, p12, ret0 m10, Rec.o_reify, hR, Rec.o_len hk, h0, h0', max_int, min_int, h1, h2, resL]
    simp -implicitDefEqProofs [r12, p12, ret0 m10, Rec.o_reify, hR, Rec.o_len hk, h0, h0', max_int, min_int, h1, h2, prep_new, newK_nil s32]
    rw [LL_for (γ := List Rect) a [] (fun i c => [(8, rectR.sl 0 c), (31, .int .i64 i)]) (fun _ c => [rectR.row 48 c]) (fun _ rest c => stopQ (stopS dx dy rest c)) (fun i c => c.length = i) (by first | omega | decide) rfl]
    · obtain ⟨q1, q2⟩ := stopS_eq dx dy a []
      rw [hall] at q1
      rw [← q1]
      cases hs : stopS dx dy a [] with
      | mk q c =>
      rw [hs] at q1 q2
      simp only at q1 q2
      cases q
      · simp -implicitDefEqProofs [k12_7, stopQ, resL]
      · rw [List.nil_append] at q2
        have q2 := q2 rfl
        rw [q2]
        generalize shiftL dx dy a = F
        have rr := Rec.reify_row (R := rectR) (P := E.P) (h := [rectR.row 48 F]) (b := 0) (n := 7) (t := 48) (l := F) rfl s32 a32
        simp -implicitDefEqProofs [k12_7, stopQ, rr, resL]
    · simp -implicitDefEqProofs [k12_7, Rec.sl_nil]
    · rfl
    · intro nx i c hi _
      simp -implicitDefEqProofs [r12_7, k12_7, hi, Rec.o_len hk, trim_le, stopS, stopQ]
    · intro nx i r rest c hi hv hd hw hc ih
      have ixi := Rec.o_index (R := rectR) (t := 48) (kk := .i64) (s := 4) rfl hk hi
      rw [hv, rect_val] at ixi
      have hb := hbox r (by rw [← hv]; exact List.getElem_mem hi)
      unfold Rect.inBox at hb
      have w0 : IntKind.i64.wrap (r.x0 + dx) = r.x0 + dx := wrap64 (by omega) (by omega)
      have w1 : IntKind.i64.wrap (r.y0 + dy) = r.y0 + dy := wrap64 (by omega) (by omega)
      have w2 : IntKind.i64.wrap (r.x1 + dx) = r.x1 + dx := wrap64 (by omega) (by omega)
      have w3 : IntKind.i64.wrap (r.y1 + dy) = r.y1 + dy := wrap64 (by omega) (by omega)
      have rs := right_s (shR dx dy r)
      unfold stopS
      cases hok : okR (shR dx dy r)
      · rw [hok] at rs
        simp only [shR] at rs
        simp -implicitDefEqProofs [r12_7, k12_7, hi, ixi, Rec.o_len hk, w0, w1, w2, w3, b4_all, ret0 m33, rs, stopQ, trim_cut, Rec.sl_bel, Rec.row_bel, Rec.o_bel]
      · rw [hok] at rs
        have ap := fun q => app_rect (h := [rectR.row 48 c, q]) (b := 0) (lo := 0) (c := c) (shR dx dy r) rfl (Nat.le_refl _) (by omega)
        have ih := ih (c ++ [shR dx dy r]) (by simp; omega)
        rw [if_pos rfl]
        generalize stopQ (stopS dx dy rest (c ++ [shR dx dy r])) = Q at ih ⊢
        simp only [shR] at rs ap ih
        simp -implicitDefEqProofs [k12_7] at ih
        simp -implicitDefEqProofs [r12_7, k12_7, hi, ixi, Rec.o_len hk, w0, w1, w2, w3, b4_all, ret0 m33, rs, lit_rect, ap, hw, trim_cut, Rec.sl_bel, Rec.row_bel, Rec.o_bel]
        exact ih
  · have ea : a = [] := List.eq_nil_of_length_eq_zero (by omega)
    subst ea
    simp -implicitDefEqProofs [r12, p12, ret0 m10, Rec.o_reify, hR, Rec.o_len hk, prep_new, newK_nil s32]
    rw [LL_for (γ := List Rect) ([] : List Rect) [] (fun i c => [(8, rectR.sl 0 c), (31, .int .i64 i)]) (fun _ c => [rectR.row 48 c]) (fun _ rest c => stopQ (stopS dx dy rest c)) (fun i c => c.length = i) (by first | omega | decide) rfl]
    · obtain ⟨q1, q2⟩ := stopS_eq dx dy ([] : List Rect) []
      rw [hall] at q1
      rw [← q1]
      cases hs : stopS dx dy ([] : List Rect) [] with
      | mk q c =>
      rw [hs] at q1 q2
      simp only at q1 q2
      cases q
      · simp -implicitDefEqProofs [k12_7, stopQ, resL]
      · rw [List.nil_append] at q2
        have q2 := q2 rfl
        rw [q2]
        generalize shiftL dx dy ([] : List Rect) = F
        have rr := Rec.reify_row (R := rectR) (P := E.P) (h := [rectR.row 48 F]) (b := 0) (n := 7) (t := 48) (l := F) rfl s32 a32
        simp -implicitDefEqProofs [k12_7, stopQ, rr, resL]
    · simp -implicitDefEqProofs [k12_7, Rec.sl_nil]
    · rfl
    · intro nx i c hi _
      simp -implicitDefEqProofs [r12_7, k12_7, hi, Rec.o_len hk, trim_le, stopS, stopQ]
    · intro nx i r rest c hi hv hd hw hc ih
      simp at hi
end Go.Proofs.Ytealnmpboommhaa.Bm

namespace Go.Proofs.Ytealnmpboommhaa.Bm
open Go Go.RowKit
section
variable {E : Env}
theorem ropR_le {C C' : Callee} (hC : LeC C C') {lo : Nat} {strict : Bool} {op : ROp} {ρ : Operand → Value} {h : Heap} {r : Value × Heap} (hr : ropR E C lo strict op ρ h = some r) : ropR E C' lo strict op ρ h = some r := by
  cases op with
  | call f args =>
    simp only [ropR] at hr ⊢
    unfold aCall at *
    split at hr
    · exact retCall_le hC hr
    · cases hr
  | _ => exact hr
theorem runR_le {C C' : Callee} (hC : LeC C C') {lo : Nat} : ∀ (l : List RI) (σ : Slots) (h : Heap) (r : Slots × Heap), runR E C lo l σ h = some r → runR E C' lo l σ h = some r
  | [], σ, h, r, hr => hr
  | o :: l, σ, h, r, hr => by
    simp only [runR] at hr ⊢
    unfold grdK bndK at *
    split at hr
    · exact bind_le (fun a ha => ropR_le hC ha) (fun a b hb => runR_le hC l _ _ _ hb) hr
    · exact runR_le hC l _ _ _ hr
    · cases hr
theorem evR_le {C C' : Callee} (hC : LeC C C') {Lp Lp' : List Nat × List Nat → Body → Body} (hL : ∀ k b b', LeB b b' → LeB (Lp k b) (Lp' k b')) {lo : Nat} : ∀ c : RCode, LeB (evR E C Lp lo c) (evR E C' Lp' lo c) := by
  intro c
  induction c with
  | region dirs l =>
    intro σ h r hr
    simp only [evR, regK, preK, Option.map_eq_some_iff] at hr ⊢
    obtain ⟨x, h1, h2⟩ := hr
    exact ⟨x, bind_le (fun a ha => ha) (fun a b hb => runR_le hC _ _ _ _ hb) h1, h2⟩
  | seq a b iha ihb =>
    intro σ h r hr
    simp only [evR, seqK] at hr ⊢
    refine bind_le (fun x hx => iha _ _ _ hx) (fun x y hy => ?_) hr
    obtain ⟨e1, σ1, h1⟩ := x
    cases e1 <;> simp only at hy ⊢
    case normal => exact ihb _ _ _ hy
    all_goals exact hy
  | cond c a b iha ihb =>
    intro σ h r hr
    simp only [evR] at hr ⊢
    unfold cndK at *
    split at hr
    · exact iha _ _ _ hr
    · exact ihb _ _ _ hr
    · cases hr
  | block id a iha =>
    intro σ h r hr
    simp only [evR, blkK, Option.map_eq_some_iff] at hr ⊢
    obtain ⟨x, h1, h2⟩ := hr
    exact ⟨x, iha _ _ _ h1, h2⟩
  | loop k a iha => intro σ h r hr; exact hL _ _ _ iha _ _ _ hr
  | scope a iha =>
    intro σ h r hr
    simp only [evR, scpK] at hr ⊢
    exact bind_le (fun x hx => iha _ _ _ hx) (fun x y hy => hy) hr
  | _ => intro σ h r hr; exact hr
end
end Go.Proofs.Ytealnmpboommhaa.Bm

namespace Go.Proofs.Ytealnmpboommhaa.Bm
open Go Go.RowKit
/-! ### Slots forgotten in one pass -/
def fgt : Nat → List Nat → Slots → Slots
  | _, [], σ => σ
  | _, _ :: _, [] => []
  | i, d :: k, v :: σ => if i = d then undef :: fgt (i + 1) k σ else v :: fgt (i + 1) (d :: k) σ
def ascB : Nat → List Nat → Bool
  | _, [] => true
  | i, d :: k => decide (i ≤ d) && ascB (d + 1) k
theorem forget_none : ∀ k : List Nat, forget k [] = []
  | [] => rfl
  | d :: k => by rw [forget_cons]; exact forget_none k
theorem forget_succ : ∀ (k : List Nat) (a : Value) (σ : Slots), forget (k.map (· + 1)) (a :: σ) = a :: forget k σ
  | [], _, _ => rfl
  | d :: k, a, σ => by
    rw [List.map_cons, forget_cons, forget_cons]
    exact forget_succ k a (setS σ d undef)
theorem ascB_le : ∀ {k : List Nat} {i : Nat}, ascB i k = true → ∀ d ∈ k, i ≤ d
  | [], _, _, _, hd => absurd hd List.not_mem_nil
  | e :: k, i, h, d, hd => by
    unfold ascB at h
    rw [Bool.and_eq_true, decide_eq_true_eq] at h
    rcases List.mem_cons.1 hd with rfl | hd
    · exact h.1
    · have := ascB_le h.2 d hd; omega
theorem ascB_mono {k : List Nat} {i j : Nat} (h : ascB i k = true) (hj : ∀ d ∈ k, j ≤ d) : ascB j k = true := by
  cases k with
  | nil => rfl
  | cons d k =>
    unfold ascB at h ⊢
    rw [Bool.and_eq_true] at h ⊢
    exact ⟨decide_eq_true (hj d (List.mem_cons_self ..)), h.2⟩
theorem sub_map {k : List Nat} {i : Nat} (h : ∀ d ∈ k, i + 1 ≤ d) : k.map (· - i) = (k.map (· - (i + 1))).map (· + 1) := by
  rw [List.map_map]
  apply List.map_congr_left
  intro d hd
  have := h d hd
  show d - i = d - (i + 1) + 1
  omega
theorem fgt_eq : ∀ (σ : Slots) (k : List Nat) (i : Nat), ascB i k = true → fgt i k σ = forget (k.map (· - i)) σ
  | σ, [], _, _ => by unfold fgt; rfl
  | [], d :: k, i, _ => by rw [forget_none]; rfl
  | v :: σ, d :: k, i, h => by
    have h' := h
    unfold ascB at h'
    rw [Bool.and_eq_true, decide_eq_true_eq] at h'
    unfold fgt
    by_cases e : i = d
    · subst e
      rw [if_pos rfl, List.map_cons, forget_cons, Nat.sub_self, fgt_eq σ k (i + 1) h'.2, sub_map (ascB_le h'.2)]
      exact (forget_succ _ _ _).symm
    · have hk : ∀ x ∈ d :: k, i + 1 ≤ x := fun x hx => by
        rcases List.mem_cons.1 hx with rfl | hx
        · omega
        · have := ascB_le h'.2 x hx; omega
      rw [if_neg e, fgt_eq σ (d :: k) (i + 1) (ascB_mono h hk), sub_map hk]
      exact (forget_succ _ _ _).symm
def forgetF (k : List Nat) (σ : Slots) : Slots := if ascB 0 k then fgt 0 k σ else forget k σ
theorem forgetF_eq (k : List Nat) (σ : Slots) : forgetF k σ = forget k σ := by
  unfold forgetF
  split
  · rw [fgt_eq σ k 0 ‹_›]
    congr 1
    exact List.map_id' k
  · rfl
def evLoopF : Nat → List Nat × List Nat → Body → Body
  | 0, _, _, _, _ => none
  | m + 1, k, body, σ, h => (body (forgetF k.1 σ) h).bind fun r => match r.1 with
    | .normal => evLoopF m k body (forgetF k.1 r.2.1) (trim h.length (forgetF k.1 r.2.1) r.2.2)
    | _ => some (r.1, (forgetF k.2 r.2.1), trim h.length (forgetF k.2 r.2.1) r.2.2)
theorem evLoopF_eq (k : List Nat × List Nat) (body : Body) : ∀ n, evLoopF n k body = evLoop n k body
  | 0 => rfl
  | m + 1 => by
    funext σ h
    unfold evLoopF evLoop
    simp only [forgetF_eq, evLoopF_eq k body m]
    refine congrArg _ (funext fun r => ?_)
    obtain ⟨e, σ', h'⟩ := r
    cases e <;> rfl
/-- Functions by their code with types in place; the others by the program's text. -/
def cR (E : Env) (T : List (FuncId × RFn)) : Nat → Callee
  | 0 => fun _ _ _ _ => none
  | n + 1 => fun f args h lo => match T.lookup f with
    | some R => retK R.res (evR E (cR E T n) (evLoopF n) lo R.body (padS args R.n) h)
    | none => evF E n f args h lo
theorem cR_le {E : Env} {T : List (FuncId × RFn)} (hT : ∀ p ∈ T, rfnOf E p.1 = some p.2 ∧ E.orc p.1 = none) : ∀ n, LeC (cR E T n) (L E)
  | 0 => fun _ _ _ _ _ hr => by cases hr
  | n + 1 => fun f args h lo r hr => by
    unfold cR at hr
    split at hr
    · rename_i R hl
      have hm : (f, R) ∈ T := by
        clear hr hT
        induction T with
        | nil => cases hl
        | cons p T ih =>
          obtain ⟨a, b⟩ := p
          rw [List.lookup_cons] at hl
          split at hl
          · rename_i he
            have := eq_of_beq he
            subst this
            cases hl
            exact List.mem_cons_self ..
          · exact List.mem_cons_of_mem _ (ih hl)
      obtain ⟨h1, h2⟩ := hT _ hm
      rw [L_fn h1 h2]
      rw [show evLoopF n = evLoop n from funext fun k => funext fun b => evLoopF_eq k b n] at hr
      unfold retK at *
      exact bind_le (fun a ha => evR_le (cR_le hT n) (fun k b b' hb => evLoop_LL n k hb) _ _ _ _ ha) (fun a b hb => hb) hr
    · exact evF_L n _ _ _ _ _ hr
theorem pure_byT {E : Env} {T : List (FuncId × RFn)} (hT : ∀ p ∈ T, rfnOf E p.1 = some p.2 ∧ E.orc p.1 = none) (n : Nat) {f : FuncId} {args : List Value} {v : Value} (hr : pureCall E.P (cR E T n) f args = some v) : pureCall E.P (L E) f args = some v :=
  pureCall_le (cR_le hT n) hr
end Go.Proofs.Ytealnmpboommhaa.Bm

namespace Go.Proofs.Ytealnmpboommhaa.Bm
open Go Go.RowKit
open Rg (Rect)

def rT : List (FuncId × RFn) := [(10, r10), (15, r15), (16, r16), (24, r24), (25, r25), (26, r26), (27, r27), (28, r28), (29, r29), (30, r30), (31, r31), (32, r32), (33, r33), (34, r34), (35, r35), (36, r36), (37, r37), (38, r38), (39, r39), (40, r40), (41, r41), (43, r43), (44, r44), (45, r45), (46, r46), (47, r47), (48, r48), (51, r51), (52, r52), (53, r53), (54, r54), (55, r55), (56, r56), (57, r57), (58, r58), (59, r59), (60, r60), (61, r61), (63, r63), (70, r70), (75, r75), (76, r76), (78, r78), (79, r79), (80, r80)]
theorem rT_ok : ∀ p ∈ rT, rfnOf E p.1 = some p.2 ∧ E.orc p.1 = none := by
  unfold rT
  simp only [List.forall_mem_cons]
  exact ⟨⟨F10, rfl⟩, ⟨F15, rfl⟩, ⟨F16, rfl⟩, ⟨F24, rfl⟩, ⟨F25, rfl⟩, ⟨F26, rfl⟩, ⟨F27, rfl⟩, ⟨F28, rfl⟩, ⟨F29, rfl⟩, ⟨F30, rfl⟩, ⟨F31, rfl⟩, ⟨F32, rfl⟩, ⟨F33, rfl⟩, ⟨F34, rfl⟩, ⟨F35, rfl⟩, ⟨F36, rfl⟩, ⟨F37, rfl⟩, ⟨F38, rfl⟩, ⟨F39, rfl⟩, ⟨F40, rfl⟩, ⟨F41, rfl⟩, ⟨F43, rfl⟩, ⟨F44, rfl⟩, ⟨F45, rfl⟩, ⟨F46, rfl⟩, ⟨F47, rfl⟩, ⟨F48, rfl⟩, ⟨F51, rfl⟩, ⟨F52, rfl⟩, ⟨F53, rfl⟩, ⟨F54, rfl⟩, ⟨F55, rfl⟩, ⟨F56, rfl⟩, ⟨F57, rfl⟩, ⟨F58, rfl⟩, ⟨F59, rfl⟩, ⟨F60, rfl⟩, ⟨F61, rfl⟩, ⟨F63, rfl⟩, ⟨F70, rfl⟩, ⟨F75, rfl⟩, ⟨F76, rfl⟩, ⟨F78, rfl⟩, ⟨F79, rfl⟩, ⟨F80, rfl⟩, fun p hp => absurd hp List.not_mem_nil⟩
set_option maxRecDepth 100000 in
theorem xo1 : pureCall E.P (L E) 16 [lst true (rectR.vals [⟨0, 0, 1, 3⟩, ⟨1, 0, 2, 1⟩, ⟨1, 2, 2, 3⟩, ⟨2, 0, 3, 3⟩])] = some (lst false [lst false (spanR.vals [(0, 0), (3, 0), (3, 3), (0, 3)]), lst false (spanR.vals [(1, 1), (1, 2), (2, 2), (2, 1)])]) := pure_byT rT_ok 40 (by kernel_rfl)
set_option maxRecDepth 100000 in
theorem xo2 : pureCall E.P (L E) 16 [lst true (rectR.vals [⟨0, 0, 1, 1⟩, ⟨1, 1, 2, 2⟩])] = some (lst false [lst false (spanR.vals [(0, 0), (1, 0), (1, 1), (0, 1)]), lst false (spanR.vals [(1, 1), (2, 1), (2, 2), (1, 2)])]) := pure_byT rT_ok 40 (by kernel_rfl)
end Go.Proofs.Ytealnmpboommhaa.Bm
