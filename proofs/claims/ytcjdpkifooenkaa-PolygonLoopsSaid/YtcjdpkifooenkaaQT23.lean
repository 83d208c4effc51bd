/-
 Going along a list's elements by a function that takes no two to one: every way closes. Conditions: none. No program in sight.
-/
import Derived.Test.YtcjdpkifooenkaaQT22
import Derived.Test.YtcjdpkifooenkaaQT21
namespace Go.Proofs.Ytcjdpkifooenkaa.Bm
open Go Go.RowKit
open Rg (Rect Pt sidesP upS crossB onB sd okI okJ crI crJ rightP allFr allFr_step allFr_end)
theorem ub7 : E.P.underlying 4 = some .bool := by kernel_rfl
theorem beq (p q : Bool) : aBin E.P .eql 4 (.bool p) (.bool q) = some (.bool (p == q)) := bin_eql_bool ub7
theorem side_index (p : List Pt) (j : Nat) (hj : j < p.length) : indexAddrT (.sl 53 ⟨some true, some 4⟩) (lst false (sideR.vals (sidesP p))) (.int .i64 (j : Int)) = some (cptr (sideR.val (sd p j))) := by
 have hs : j < (sidesP p).length := by rw [Rg.sides_len]; exact hj
 rw [Rg.sd_get hs]
 exact Rec.index_tree rfl hs
theorem sides_lenT (p : List Pt) (h : Heap) : lenT .sl h (lst false (sideR.vals (sidesP p))) = some (.int .i64 p.length) := by
 rw [Rec.tree_len, Rg.sides_len]
theorem pt_index (x : Bool) (p : List Pt) (j : Nat) (hj : j < p.length) : indexAddrT (.sl 32 ⟨some true, some 2⟩) (lst x (spanR.vals p)) (.int .i64 (j : Int)) = some (cptr (spanR.val (p.getD j (0, 0)))) := by
 have e : p.getD j (0, 0) = p[j] := by rw [List.getD_eq_getElem?_getD, List.getElem?_eq_getElem hj]; rfl
 rw [e]
 exact Rec.index_tree rfl hj
set_option maxHeartbeats 2000000 in
theorem pright_spec (x : Bool) (p : List Pt) (hp : p.length ≤ 1000000) : pureCall E.P (L E) 14 [lst x (spanR.vals p)] = some (.bool (rightP p)) := by
 have ln : ∀ h, lenT .sl h (lst x (spanR.vals p)) = some (.int .i64 p.length) := fun h => Rec.tree_len
 rw [pureCall_fn F14 rfl]
 by_cases h4 : p.length < 4
 ·have h4' : (p.length : Int) < 4 := by omega
  have e : rightP p = false := by unfold rightP; rw [decide_eq_false (by omega)]; rfl
  rw [e]
  simp -implicitDefEqProofs [r14, p14, ln, h4, h4']
 by_cases h60 : 60 < p.length
 ·have h60' : 60 < (p.length : Int) := by omega
  have h4' : ¬ ((p.length : Int) < 4) := by omega
  have e : rightP p = false := by unfold rightP; rw [decide_eq_false (show ¬ (p.length ≤ 60) by omega), Bool.and_false]; rfl
  rw [e]
  simp -implicitDefEqProofs [r14, p14, ln, h4, h4', h60, h60']
 have h4' : ¬ ((p.length : Int) < 4) := by omega
 have h60' : ¬ (60 < (p.length : Int)) := by omega
 have ar := around_spec x p (by omega)
 have sln := sides_lenT p
 have six := side_index p
 have pix := pt_index x p
 have hE : rightP p = (allFr (okI p) 0 p.length && (allFr (crI p) 0 p.length && !upS (sd p 0))) := by
  unfold rightP
  rw [decide_eq_true (show 4 ≤ p.length by omega), decide_eq_true (show p.length ≤ 60 by omega), Bool.true_and, Bool.true_and, Bool.and_assoc]
 rw [hE]
 clear hE
 generalize hSV : lst false (sideR.vals (sidesP p)) = SV at *
 generalize hPV : lst x (spanR.vals p) = PV at *
 have sv0 : settled depth PV = true := by rw [← hPV]; rfl
 simp -implicitDefEqProofs [r14, p14, ln, h4, h4', h60, h60', ret1 m35, sv0, ar, sln]
 rw [LL_rec (α := Nat) 0 (fun i => [(21, .int .i64 (i : Int))]) (fun _ => []) (fun i => if allFr (okI p) i (p.length - i) then (.exit 0, [(21, undef)], []) else (.ret, [(2, .bool false), (21, undef)], [])) (fun i => i ≤ p.length) (fun i => p.length - i)]
 ·rw [Nat.sub_zero]
  cases hok : allFr (okI p) 0 p.length
  ·simp -implicitDefEqProofs [k14_5, sln]
  simp -implicitDefEqProofs [k14_5, sln]
  rw [LL_rec (α := Nat) 0 (fun i => [(78, .int .i64 (i : Int))]) (fun _ => []) (fun i => if allFr (crI p) i (p.length - i) then (.exit 2, [(78, undef)], []) else (.ret, [(2, .bool false), (78, undef)], [])) (fun i => i ≤ p.length) (fun i => p.length - i)]
  ·rw [Nat.sub_zero]
   have i0 := six 0 (by omega)
   rw [side_val] at i0
   have u0 := up_spec (sd p 0)
   generalize upS (sd p 0) = u at *
   cases hcr : allFr (crI p) 0 p.length
   ·simp -implicitDefEqProofs [k14_14]
   ·have i0' : indexAddrT (.sl 53 ⟨some true, some 4⟩) SV (.int .i64 0) = _ := i0
    simp -implicitDefEqProofs [k14_14, i0', ret0 m36, u0]
  ·exact Nat.zero_le _
  ·simp -implicitDefEqProofs [k14_14]
  ·rfl
  ·intro nx i hi ih
   by_cases h : i < p.length
   ·have h' : (i : Int) < (p.length : Int) := by omega
    have ih := ih (i + 1) (by omega) (by omega)
    have wi : IntKind.i64.wrap ((i : Int) + 1) = (i : Int) + 1 := wrap64 (by omega) (by omega)
    have wi2 : IntKind.i64.wrap ((i : Int) + 2) = ((i + 2 : Nat) : Int) := (wrap64 (by omega) (by omega)).trans (by omega)
    have ii := six i h
    rw [side_val] at ii
    rw [allFr_step h]
    generalize hq : allFr (crI p) (i + 1) (p.length - (i + 1)) = q at ih ⊢
    have ecr : crI p i = allFr (crJ p i) (i + 2) (p.length - (i + 2)) := rfl
    rw [ecr]
    simp -implicitDefEqProofs [k14_14] at ih
    simp -implicitDefEqProofs [r14_14, k14_14, h, h', sln, wi2, -Int.natCast_add]
    rw [LL_rec (α := Nat) (i + 2) (fun k => [(8, .int .i64 (k : Int))]) (fun _ => []) (fun k => if allFr (crJ p i) k (p.length - k) then (.exit 4, [(8, undef)], []) else (.ret, [(2, .bool false), (8, undef)], [])) (fun k => i + 2 ≤ k) (fun k => p.length - k)]
    ·cases allFr (crJ p i) (i + 2) (p.length - (i + 2))
     ·simp -implicitDefEqProofs [k14_17, trim_le]
     ·simp -implicitDefEqProofs [k14_17, wi, trim_le]
      exact ih
    ·exact Nat.le_refl _
    ·simp -implicitDefEqProofs [k14_17]
    ·rfl
    ·intro nx k hk ih
     by_cases hkn : k < p.length
     ·have hkn' : (k : Int) < (p.length : Int) := by omega
      have ih := ih (k + 1) (by omega) (by omega)
      have wk : IntKind.i64.wrap ((k : Int) + 1) = (k : Int) + 1 := wrap64 (by omega) (by omega)
      have w1 : IntKind.i64.wrap ((i : Int) + (p.length : Int)) = (i : Int) + (p.length : Int) := wrap64 (by omega) (by omega)
      have w2 : IntKind.i64.wrap ((i : Int) + (p.length : Int) - (k : Int)) = (i : Int) + (p.length : Int) - (k : Int) := wrap64 (by omega) (by omega)
      have ik := six k hkn
      rw [side_val] at ik
      have cs := crosses_spec (sd p i) (sd p k)
      rw [allFr_step hkn]
      have ecj : crJ p i k = !(decide (1 < i + p.length - k) && crossB (sd p i) (sd p k)) := rfl
      rw [ecj]
      generalize crossB (sd p i) (sd p k) = cb at *
      generalize allFr (crJ p i) (k + 1) (p.length - (k + 1)) = qk at ih ⊢
      simp -implicitDefEqProofs [k14_17] at ih
      by_cases h1 : 1 < i + p.length - k
      ·have h1' : 1 < (i : Int) + (p.length : Int) - (k : Int) := by omega
       cases cb
       ·simp -implicitDefEqProofs [r14_17, k14_17, hkn, hkn', sln, w1, w2, h1, h1', ii, ik, ret0 m38, cs, wk, trim_le]
        exact ih
       ·simp -implicitDefEqProofs [r14_17, k14_17, hkn, hkn', sln, w1, w2, h1, h1', ii, ik, ret0 m38, cs, wk, trim_le]
      ·have h1' : ¬ (1 < (i : Int) + (p.length : Int) - (k : Int)) := by omega
       simp -implicitDefEqProofs [r14_17, k14_17, hkn, hkn', sln, w1, w2, h1, h1', ii, ik, wk, trim_le]
       exact ih
     ·have hkn' : ¬ ((k : Int) < (p.length : Int)) := by omega
      rw [allFr_end (by omega)]
      simp -implicitDefEqProofs [r14_17, k14_17, hkn, hkn', sln, trim_le]
   ·have h' : ¬ ((i : Int) < (p.length : Int)) := by omega
    rw [allFr_end (by omega)]
    simp -implicitDefEqProofs [r14_14, k14_14, h, h', sln, trim_le]
 ·exact Nat.zero_le _
 ·simp -implicitDefEqProofs [k14_5, sln]
 ·rfl
 ·intro nx i hi ih
  by_cases h : i < p.length
  ·have h' : (i : Int) < (p.length : Int) := by omega
   have ih := ih (i + 1) (by omega) (by omega)
   have hm : (i + 1) % p.length < p.length := Nat.mod_lt _ (by omega)
   have wi : IntKind.i64.wrap ((i : Int) + 1) = ((i + 1 : Nat) : Int) := (wrap64 (by omega) (by omega)).trans (by omega)
   have rm := rem_nat (P := E.P) (t := 3) (m := i + 1) (n := p.length) (by omega)
   have ii := six i h
   have im := six _ hm
   have p0 := pix 0 (by omega)
   have p0' : indexAddrT (.sl 32 ⟨some true, some 2⟩) PV (.int .i64 0) = _ := p0
   have pI := pix i h
   rw [side_val] at ii im
   rw [span_val] at p0' pI
   have gs := grid_spec (sd p i).1
   have us := up_spec (sd p i)
   have un := up_spec (sd p ((i + 1) % p.length))
   have cp := compare_spec (p.getD 0 (0, 0)) (p.getD i (0, 0))
   have lt := cmpP_lt (p.getD 0 (0, 0)) (p.getD i (0, 0))
   rw [allFr_step h]
   have eok : okI p i = (onB (sd p i).1 && ((decide ((sd p i).1.1 = (sd p i).2.1) != decide ((sd p i).1.2 = (sd p i).2.2)) && (upS (sd p i) != upS (sd p ((i + 1) % p.length))) && (decide (i = 0) || Rg.ltP (p.getD 0 (0, 0)) (p.getD i (0, 0))))) := rfl
   rw [eok]
   clear p0 eok
   generalize hj : (i + 1) % p.length = j at *
   generalize p.getD 0 (0, 0) = a0 at *
   generalize p.getD i (0, 0) = ai at *
   generalize sd p i = s at *
   generalize sd p j = t at *
   obtain ⟨⟨sa, sb⟩, sc, se⟩ := s
   obtain ⟨⟨ta, tb⟩, tc, te⟩ := t
   generalize allFr (okI p) (i + 1) (p.length - (i + 1)) = qk at ih ⊢
   generalize cmpP a0 ai = cv at *
   generalize Rg.ltP a0 ai = lv at *
   generalize upS ((sa, sb), sc, se) = u1 at *
   generalize upS ((ta, tb), tc, te) = u2 at *
   simp only at ii im gs us un ⊢
   generalize onB (sa, sb) = g at *
   simp -implicitDefEqProofs [k14_5] at ih
   have bP : ∀ d n, below (d + 1) n PV = true := fun d n => by rw [← hPV]; rfl
   have bS : ∀ d n, below (d + 1) n SV = true := fun d n => by rw [← hSV]; rfl
   cases g
   ·simp -implicitDefEqProofs [r14_5, k14_5, h, h', sln, ii, im, wi, rm, ret0 m37, gs, bP, bS, trim_cut, -Int.natCast_add]
   by_cases q1 : sa = sc
   ·subst q1
    by_cases q2 : sb = se
    ·subst q2
     simp -implicitDefEqProofs [r14_5, k14_5, h, h', sln, ii, im, wi, rm, ret0 m37, gs, beq, ret0 m36, us, un, bP, bS, trim_cut, -Int.natCast_add]
    ·cases u1 <;> cases u2
     ·simp -implicitDefEqProofs [r14_5, k14_5, h, h', sln, ii, im, wi, rm, ret0 m37, gs, beq, ret0 m36, us, un, q2, bP, bS, trim_cut, -Int.natCast_add]
     ·by_cases i0 : i = 0
      ·rw [decide_eq_true i0]
       have ip : ¬ (0 < (i : Int)) := by omega
       have ipn : ¬ (0 < i) := by omega
       simp -implicitDefEqProofs [r14_5, k14_5, h, h', sln, ii, im, wi, rm, ret0 m37, gs, beq, ret0 m36, us, un, q2, ip, ipn, bP, bS, trim_cut, -Int.natCast_add]
       exact ih
      ·rw [decide_eq_false i0]
       have ip : 0 < (i : Int) := by omega
       have ipn : 0 < i := by omega
       cases lv
       ·have c0 : 0 ≤ cv := by by_cases z : cv < 0; exact absurd (lt.1 z) (by decide); omega
        simp -implicitDefEqProofs [r14_5, k14_5, h, h', sln, ii, im, wi, rm, ret0 m37, gs, beq, ret0 m36, us, un, q2, ip, ipn, p0', pI, ret0 m25, cp, c0, bP, bS, trim_cut, -Int.natCast_add]
       ·have c0 : ¬ (0 ≤ cv) := by have := lt.2 rfl; omega
        simp -implicitDefEqProofs [r14_5, k14_5, h, h', sln, ii, im, wi, rm, ret0 m37, gs, beq, ret0 m36, us, un, q2, ip, ipn, p0', pI, ret0 m25, cp, c0, bP, bS, trim_cut, -Int.natCast_add]
        exact ih
     ·by_cases i0 : i = 0
      ·rw [decide_eq_true i0]
       have ip : ¬ (0 < (i : Int)) := by omega
       have ipn : ¬ (0 < i) := by omega
       simp -implicitDefEqProofs [r14_5, k14_5, h, h', sln, ii, im, wi, rm, ret0 m37, gs, beq, ret0 m36, us, un, q2, ip, ipn, bP, bS, trim_cut, -Int.natCast_add]
       exact ih
      ·rw [decide_eq_false i0]
       have ip : 0 < (i : Int) := by omega
       have ipn : 0 < i := by omega
       cases lv
       ·have c0 : 0 ≤ cv := by by_cases z : cv < 0; exact absurd (lt.1 z) (by decide); omega
        simp -implicitDefEqProofs [r14_5, k14_5, h, h', sln, ii, im, wi, rm, ret0 m37, gs, beq, ret0 m36, us, un, q2, ip, ipn, p0', pI, ret0 m25, cp, c0, bP, bS, trim_cut, -Int.natCast_add]
       ·have c0 : ¬ (0 ≤ cv) := by have := lt.2 rfl; omega
        simp -implicitDefEqProofs [r14_5, k14_5, h, h', sln, ii, im, wi, rm, ret0 m37, gs, beq, ret0 m36, us, un, q2, ip, ipn, p0', pI, ret0 m25, cp, c0, bP, bS, trim_cut, -Int.natCast_add]
        exact ih
     ·simp -implicitDefEqProofs [r14_5, k14_5, h, h', sln, ii, im, wi, rm, ret0 m37, gs, beq, ret0 m36, us, un, q2, bP, bS, trim_cut, -Int.natCast_add]
   ·by_cases q2 : sb = se
    ·subst q2
     cases u1 <;> cases u2
     ·simp -implicitDefEqProofs [r14_5, k14_5, h, h', sln, ii, im, wi, rm, ret0 m37, gs, beq, ret0 m36, us, un, q1, bP, bS, trim_cut, -Int.natCast_add]
     ·by_cases i0 : i = 0
      ·rw [decide_eq_true i0]
       have ip : ¬ (0 < (i : Int)) := by omega
       have ipn : ¬ (0 < i) := by omega
       simp -implicitDefEqProofs [r14_5, k14_5, h, h', sln, ii, im, wi, rm, ret0 m37, gs, beq, ret0 m36, us, un, q1, ip, ipn, bP, bS, trim_cut, -Int.natCast_add]
       exact ih
      ·rw [decide_eq_false i0]
       have ip : 0 < (i : Int) := by omega
       have ipn : 0 < i := by omega
       cases lv
       ·have c0 : 0 ≤ cv := by by_cases z : cv < 0; exact absurd (lt.1 z) (by decide); omega
        simp -implicitDefEqProofs [r14_5, k14_5, h, h', sln, ii, im, wi, rm, ret0 m37, gs, beq, ret0 m36, us, un, q1, ip, ipn, p0', pI, ret0 m25, cp, c0, bP, bS, trim_cut, -Int.natCast_add]
       ·have c0 : ¬ (0 ≤ cv) := by have := lt.2 rfl; omega
        simp -implicitDefEqProofs [r14_5, k14_5, h, h', sln, ii, im, wi, rm, ret0 m37, gs, beq, ret0 m36, us, un, q1, ip, ipn, p0', pI, ret0 m25, cp, c0, bP, bS, trim_cut, -Int.natCast_add]
        exact ih
     ·by_cases i0 : i = 0
      ·rw [decide_eq_true i0]
       have ip : ¬ (0 < (i : Int)) := by omega
       have ipn : ¬ (0 < i) := by omega
       simp -implicitDefEqProofs [r14_5, k14_5, h, h', sln, ii, im, wi, rm, ret0 m37, gs, beq, ret0 m36, us, un, q1, ip, ipn, bP, bS, trim_cut, -Int.natCast_add]
       exact ih
      ·rw [decide_eq_false i0]
       have ip : 0 < (i : Int) := by omega
       have ipn : 0 < i := by omega
       cases lv
       ·have c0 : 0 ≤ cv := by by_cases z : cv < 0; exact absurd (lt.1 z) (by decide); omega
        simp -implicitDefEqProofs [r14_5, k14_5, h, h', sln, ii, im, wi, rm, ret0 m37, gs, beq, ret0 m36, us, un, q1, ip, ipn, p0', pI, ret0 m25, cp, c0, bP, bS, trim_cut, -Int.natCast_add]
       ·have c0 : ¬ (0 ≤ cv) := by have := lt.2 rfl; omega
        simp -implicitDefEqProofs [r14_5, k14_5, h, h', sln, ii, im, wi, rm, ret0 m37, gs, beq, ret0 m36, us, un, q1, ip, ipn, p0', pI, ret0 m25, cp, c0, bP, bS, trim_cut, -Int.natCast_add]
        exact ih
     ·simp -implicitDefEqProofs [r14_5, k14_5, h, h', sln, ii, im, wi, rm, ret0 m37, gs, beq, ret0 m36, us, un, q1, bP, bS, trim_cut, -Int.natCast_add]
    ·simp -implicitDefEqProofs [r14_5, k14_5, h, h', sln, ii, im, wi, rm, ret0 m37, gs, beq, ret0 m36, us, un, q1, q2, bP, bS, trim_cut, -Int.natCast_add]
  ·have h' : ¬ ((i : Int) < (p.length : Int)) := by omega
   rw [allFr_end (by omega)]
   simp -implicitDefEqProofs [r14_5, k14_5, h, h', sln, trim_le]
end Go.Proofs.Ytcjdpkifooenkaa.Bm
namespace Go.Proofs.Ytcjdpkifooenkaa.Bm
open Go Go.RowKit
open Rg (Rect scan scan_le putAt insN sortU edgesX)
theorem g3 : aggT E.P 3 = some false := by kernel_rfl
theorem int_sl {b : Nat} {c d : List Int} (h : c.length = d.length) : intR.sl b c = intR.sl b d := by unfold Rec.sl; rw [h]
theorem int_index {g : Option Bool} {b : Nat} {l : List Int} {i : Nat} (h1 : i < l.length) : indexAddrT (.sl 3 ⟨g, some 1⟩) (intR.sl b l) (.int .i64 (i : Int)) = some (intR.at_ b l i 0) := Rec.index_row (R := intR) rfl h1
theorem int_load {h : Heap} {b : Nat} {l : List Int} {i : Nat} {sz : Option Nat} (hob : h[b]? = some (intR.row 3 l)) (h1 : i < l.length) : loadT ⟨some false, sz⟩ h (intR.at_ b l i 0) = some (.int .i64 l[i]) := Rec.load_cell (R := intR) (j := 0) hob h1 (by decide)
theorem lit_num (h : Heap) (z : Int) : buildSliceT (some ⟨3, 1, 8, .int .i64 0, ⟨some false, some 1⟩⟩) false h 1 #[(0, .int .i64 z)] = some (lst true [.int .i64 z], h) :=
 (build_lit' (n := 1) (l := [(0, .int .i64 z)]) rfl rfl (by decide) (by decide) (by decide)).trans rfl
theorem app_num {h : Heap} {b lo : Nat} {c : List Int} (z : Int) (hob : h[b]? = some (intR.row 3 c)) (hlo : lo ≤ b) (hc : c.length ≤ 1000000) :
  appendT (some ⟨3, 1, 8, .int .i64 0, ⟨some false, some 1⟩⟩) h lo false (intR.sl b c) (lst true [.int .i64 z]) = some (intR.sl b (c ++ [z]), h.set b (intR.row 3 (c ++ [z]))) :=
 Rec.app (R := intR) (m := [z]) rfl hob (cells_lst (by rfl)) hlo (by show (c.length + 1) * 8 ≤ 2 ^ 47; omega)
end Go.Proofs.Ytcjdpkifooenkaa.Bm
namespace Go.Proofs.Ytcjdpkifooenkaa.Bm
open Go Go.RowKit
open Rg (Rect Slab Pt sidesP upS hB ysP colY polyL rightP sortU stripL outT emit pairs ends)
def polyX (p : List Pt) : Except Int (List Rect) := if rightP p then (if 200 < (polyL p).length then .error 6 else .ok (polyL p)) else .error 10
theorem ends_even7 : ∀ {c : List (Int × Int)} {j : Nat} (hj : j < c.length), (ends c)[2 * j]? = some c[j].1 ∧ (ends c)[2 * j + 1]? = some c[j].2
 | [], j, hj => by simp at hj
 | s :: c, 0, _ => ⟨rfl, rfl⟩
 | s :: c, j + 1, hj => ends_even7 (c := c) (j := j) (by simpa using hj)
theorem ends_at7 {c : List (Int × Int)} {j : Nat} (hj : j < c.length) : ∃ (h1 : 2 * j < (ends c).length) (h2 : 2 * j + 1 < (ends c).length), (ends c)[2 * j] = c[j].1 ∧ (ends c)[2 * j + 1] = c[j].2 := by
 have hl := Rg.ends_len c
 obtain ⟨e1, e2⟩ := ends_even7 hj
 refine ⟨by omega, by omega, ?_, ?_⟩
 ·rw [List.getElem?_eq_getElem (by omega)] at e1; exact Option.some.inj e1
 ·rw [List.getElem?_eq_getElem (by omega)] at e2; exact Option.some.inj e2
theorem emit_cons7 (x0 x1 : Int) (s : Int × Int) (c : List (Int × Int)) : emit ⟨x0, x1, s :: c⟩ = [⟨x0, s.1, x1, s.2⟩] ++ emit ⟨x0, x1, c⟩ := rfl
theorem strip_step {c : Int → List (Int × Int)} {U : List Int} {i : Nat} (h : i + 1 < U.length) : outT (stripL c (U.drop i)) = emit ⟨U[i], U[i + 1], c U[i]⟩ ++ outT (stripL c (U.drop (i + 1))) := by
 rw [List.drop_eq_getElem_cons (show i < U.length by omega), List.drop_eq_getElem_cons h]; rfl
theorem strip_end {c : Int → List (Int × Int)} {U : List Int} {i : Nat} (h : ¬ i + 1 < U.length) : outT (stripL c (U.drop i)) = [] := by
 have hl : (U.drop i).length ≤ 1 := by rw [List.length_drop]; omega
 match U.drop i, hl with
 | [], _ => rfl
 | [_], _ => rfl
theorem hB_up {x : Int} {s : Pt × Pt} (h : upS s = true) : hB x s = false := by
 unfold upS at h
 rw [decide_eq_true_eq] at h
 cases q : hB x s
 ·rfl
 ·rw [Rg.hB_iff] at q; omega
set_option maxHeartbeats 4000000 in
theorem pregion_spec (x : Bool) (p : List Pt) (hp : p.length ≤ 1000000) : pureCall E.P (L E) 11 [lst x (spanR.vals p)] = some (resL (polyX p)) := by
 have ln : ∀ h, lenT .sl h (lst x (spanR.vals p)) = some (.int .i64 p.length) := fun h => Rec.tree_len
 have hR := pright_spec x p hp
 have rf : ∀ h, reify E.P 8 h (lst x (spanR.vals p)) = some (lst x (spanR.vals p)) := fun _ => rfl
 have sv0 : settled depth (lst x (spanR.vals p)) = true := rfl
 have bP : ∀ d n, below (d + 1) n (lst x (spanR.vals p)) = true := fun d n => rfl
 have pix : ∀ (j : Nat) (hj : j < p.length), indexAddrT (.sl 32 ⟨some true, some 2⟩) (lst x (spanR.vals p)) (.int .i64 (j : Int)) = some (cptr (spanR.val p[j])) := fun j hj => Rec.index_tree rfl hj
 rw [pureCall_fn F11 rfl]
 unfold polyX
 generalize hPV : lst x (spanR.vals p) = PV at *
 cases hr : rightP p
 ·rw [hr] at hR
  simp -implicitDefEqProofs [r11, p11, ret0 m14, rf, hR, resL]
 rw [hr] at hR
 obtain ⟨hp4, hp60⟩ := Rg.rightP_len hr
 simp -implicitDefEqProofs [r11, p11, ret0 m14, rf, hR, prep_new, newK_nil s3, ln]
 rw [LL_for (γ := List Int) p [] (fun i c => [(4, intR.sl 0 c), (19, .int .i64 i)]) (fun _ c => [intR.row 3 c])
  (fun _ rest c => (.exit 0, [(4, intR.sl 0 (c ++ rest.map (·.1))), (19, undef)], [intR.row 3 (c ++ rest.map (·.1))])) (fun i c => c.length = i) (by omega) rfl]
 ·rw [List.nil_append]
  have hxl : (p.map (·.1)).length = p.length := List.length_map _
  have hU : (sortU (p.map (·.1))).length ≤ p.length := by
   have := Rg.sortU_le (p.map (·.1)); omega
  have so := sortInts (h := [intR.row 3 (p.map (·.1))]) (b := 0) (lo := 0) (d := p.map (·.1)) rfl (Nat.le_refl _) (by omega)
  obtain ⟨r, co, hrl⟩ := compInts (h := [intR.row 3 (sortI (p.map (·.1)))]) (b := 0) (lo := 0) (d := sortI (p.map (·.1))) rfl (Nat.le_refl _) (by rw [sortI_len]; omega)
  rw [Rg.comp_sort] at co hrl
  have e1 : intR.sl 0 (sortI (p.map (·.1))) = intR.sl 0 (p.map (·.1)) := by unfold Rec.sl; rw [sortI_len]
  rw [e1, sortI_len, hxl] at co
  rw [sortI_len, hxl] at hrl
  have ar : pureCall E.P (L E) 35 [PV] = some (lst false (sideR.vals (sidesP p))) := by rw [← hPV]; exact around_spec x p (by omega)
  have sln := sides_lenT p
  have bS : ∀ d n, below (d + 1) n (lst false (sideR.vals (sidesP p))) = true := fun d n => rfl
  have six : ∀ (j : Nat) (hj : j < (sidesP p).length), indexAddrT (.sl 53 ⟨some true, some 4⟩) (lst false (sideR.vals (sidesP p))) (.int .i64 (j : Int)) = some (cptr (sideR.val (sidesP p)[j])) := fun j hj => Rec.index_tree rfl hj
  have hsl := Rg.sides_len p
  have ePL : polyL p = outT (stripL (colY p) (sortU (p.map (·.1)))) := rfl
  rw [ePL]
  have hev : ∀ x, (sortI (ysP p x)).length % 2 = 0 := fun x => by rw [sortI_len]; exact Rg.ys_even p x
  have hyl : ∀ x, (ysP p x).length ≤ p.length := fun x => Rg.ys_len p x
  have wl : IntKind.i64.wrap (((sortU (p.map (·.1))).length : Int) - 1) = ((sortU (p.map (·.1))).length : Int) - 1 := wrap64 (by omega) (by omega)
  simp -implicitDefEqProofs [k11_5, wl, ret2 (E := E) (f := 33) rfl, ret2 (E := E) (f := 34) rfl, so, co, ret1 m35, sv0, ar, prep_new, newK_nil s32, pre_len]
  generalize hSV : lst false (sideR.vals (sidesP p)) = SV at *
  generalize sortU (p.map (·.1)) = U at *
  clear so co e1 ePL hxl hR
  rw [LL_rec (α := Nat × List Rect) (0, []) (fun c => [(8, rectR.sl 1 c.2), (38, .int .i64 (c.1 : Int))]) (fun c => [intR.row 3 (U ++ r), rectR.row 39 c.2])
   (fun c => (.exit 2, [(8, rectR.sl 1 (c.2 ++ outT (stripL (colY p) (U.drop c.1)))), (38, undef)], [intR.row 3 (U ++ r), rectR.row 39 (c.2 ++ outT (stripL (colY p) (U.drop c.1)))])) (fun c => c.1 ≤ U.length ∧ c.2.length ≤ 100 * c.1) (fun c => U.length - c.1)]
  ·rw [List.drop_zero, List.nil_append]
   generalize outT (stripL (colY p) U) = F
   have rr := Rec.reify_row (R := rectR) (P := E.P) (h := [intR.row 3 (U ++ r), rectR.row 39 F]) (b := 1) (n := 7) (t := 39) (l := F) rfl s32 a32
   by_cases h2 : 200 < F.length
   ·have h2' : 200 < (F.length : Int) := by omega
    simp -implicitDefEqProofs [k11_14, Rec.sl_len, h2, h2', resL]
   ·have h2' : ¬ (200 < (F.length : Int)) := by omega
    simp -implicitDefEqProofs [k11_14, Rec.sl_len, h2, h2', rr, resL]
  ·exact ⟨Nat.zero_le _, Nat.zero_le _⟩
  ·simp -implicitDefEqProofs [k11_14, Rec.sl_nil]
  ·rfl
  ·intro nx c hc ih
   obtain ⟨i, o⟩ := c
   obtain ⟨h1, h2⟩ := hc
   simp only at h1 h2
   by_cases hi : i + 1 < U.length
   ·have hi' : (i : Int) < (U.length : Int) - 1 := by omega
    have wi : IntKind.i64.wrap ((i : Int) + 1) = ((i + 1 : Nat) : Int) := (wrap64 (by omega) (by omega)).trans (by omega)
    have px := pre_index (t := 3) (g := some false) (b := 0) (n := p.length) (k := .i64) (e := U) (i := i) (by omega)
    have px1 := pre_index (t := 3) (g := some false) (b := 0) (n := p.length) (k := .i64) (e := U) hi
    have pl := fun a b => pre_load (h := [intR.row 3 (U ++ r), a, b]) (b := 0) (n := p.length) (sz := some 1) (e := U) (i := i) rfl hrl (by omega)
    have pl2 := fun a b c => pre_load (h := [intR.row 3 (U ++ r), a, b, c]) (b := 0) (n := p.length) (sz := some 1) (e := U) (i := i) rfl hrl (by omega)
    have pl1 := fun a b => pre_load (h := [intR.row 3 (U ++ r), a, b]) (b := 0) (n := p.length) (sz := some 1) (e := U) rfl hrl hi
    have hcl : 2 * (colY p U[i]).length ≤ p.length := Rg.colY_len p U[i]
    have ih := ih (i + 1, o ++ emit ⟨U[i], U[i + 1], colY p U[i]⟩) (by show U.length - (i + 1) < U.length - i; omega) ⟨by show i + 1 ≤ U.length; omega, by
     show (o ++ emit ⟨U[i], U[i + 1], colY p U[i]⟩).length ≤ 100 * (i + 1)
     have e : (emit ⟨U[i], U[i + 1], colY p U[i]⟩).length = (colY p U[i]).length := List.length_map _
     rw [List.length_append, e]; omega⟩
    rw [strip_step hi, ← List.append_assoc]
    have ecol : colY p U[i] = pairs (sortI (ysP p U[i])) := rfl
    have eys : ysP p U[i] = ((sidesP p).filter (hB U[i])).map (fun s => s.1.2) := rfl
    have hev := hev U[i]
    have hyl := hyl U[i]
    have ee := Rg.ends_pairs hev
    rw [ecol] at ih ⊢
    generalize hx0 : U[i] = x0 at *
    generalize hx1 : U[i + 1] = x1 at *
    generalize outT (stripL (colY p) (U.drop (i + 1))) = F at *
    simp -implicitDefEqProofs [k11_14, -List.append_assoc] at ih
    simp -implicitDefEqProofs [r11_14, k11_14, pre_len, wl, hi, hi', prep_new, newK_nil s3, sln, -List.append_assoc]
    rw [LL_for (γ := List Int) (sidesP p) [] (fun j c => [(10, intR.sl 2 c), (43, .int .i64 j)]) (fun _ c => [intR.row 3 (U ++ r), rectR.row 39 o, intR.row 3 c])
     (fun _ rest c => (.exit 4, [(10, intR.sl 2 (c ++ (rest.filter (hB x0)).map (fun s => s.1.2))), (43, undef)], [intR.row 3 (U ++ r), rectR.row 39 o, intR.row 3 (c ++ (rest.filter (hB x0)).map (fun s => s.1.2))])) (fun j c => c.length ≤ j) (by omega) (Nat.le_refl _)]
    ·rw [List.nil_append, ← eys]
     have so2 := sortInts (h := [intR.row 3 (U ++ r), rectR.row 39 o, intR.row 3 (ysP p x0)]) (b := 2) (lo := 0) (d := ysP p x0) rfl (Nat.zero_le _) (by omega)
     have hLl : (sortI (ysP p x0)).length = (ysP p x0).length := sortI_len _
     have esl : intR.sl 2 (sortI (ysP p x0)) = intR.sl 2 (ysP p x0) := int_sl hLl
     generalize ysP p x0 = Y at *
     generalize sortI Y = Lq at *
     have hel := Rg.ends_len (pairs Lq)
     rw [ee] at hel
     have ixL := fun (j : Nat) (hj : j < Lq.length) => int_index (g := some false) (b := 2) (l := Lq) hj
     rw [esl] at ixL
     simp -implicitDefEqProofs [k11_18, ret2 (E := E) (f := 33) rfl, so2, -List.append_assoc]
     rw [LL_for (γ := List Rect) (pairs Lq) o (fun j o' => [(8, rectR.sl 1 o'), (13, .int .i64 ((2 * j : Nat) : Int))]) (fun _ o' => [intR.row 3 (U ++ r), rectR.row 39 o', intR.row 3 Lq])
      (fun _ rest o' => (.exit 6, [(8, rectR.sl 1 (o' ++ emit ⟨x0, x1, rest⟩)), (13, undef)], [intR.row 3 (U ++ r), rectR.row 39 (o' ++ emit ⟨x0, x1, rest⟩), intR.row 3 Lq])) (fun j o' => o'.length = o.length + j) (by omega) rfl]
     ·simp -implicitDefEqProofs [k11_25, wi, trim_cut, bP, bS, Rec.sl_bel, Rec.row_bel, pre_bel, -List.append_assoc, -Int.natCast_add]
      exact ih
     ·simp -implicitDefEqProofs [k11_25]
     ·rfl
     ·intro nx j o' hj _
      have w2 : IntKind.i64.wrap (((2 * j : Nat) : Int) + 1) = ((2 * j + 1 : Nat) : Int) := wrap64 (by omega) (by omega)
      have hjn : ¬ (((2 * j + 1 : Nat) : Int) < (Y.length : Int)) := by omega
      have hjn' : ¬ (2 * j + 1 < Y.length) := by omega
      have e0 : emit ⟨x0, x1, []⟩ = [] := rfl
      simp -implicitDefEqProofs [r11_25, k11_25, Rec.sl_len, w2, hjn, hjn', e0, trim_le, -Int.natCast_add, -Int.natCast_mul]
     ·intro nx j s rest o' hj hv hd hw ho ih
      obtain ⟨g1, g2, g3, g4⟩ := ends_at7 hj
      simp only [ee] at g1 g2 g3 g4
      rw [hv] at g3 g4
      have st := app_rect (h := [intR.row 3 (U ++ r), rectR.row 39 o', intR.row 3 Lq]) (b := 1) (lo := 0) (c := o') ⟨x0, s.1, x1, s.2⟩ rfl (Nat.zero_le _) (by omega)
      have w2 : IntKind.i64.wrap (((2 * j : Nat) : Int) + 1) = ((2 * j + 1 : Nat) : Int) := wrap64 (by omega) (by omega)
      have w3 : IntKind.i64.wrap (((2 * j : Nat) : Int) + 2) = ((2 * (j + 1) : Nat) : Int) := (wrap64 (by omega) (by omega)).trans (by omega)
      have hjn : ((2 * j + 1 : Nat) : Int) < (Y.length : Int) := by omega
      have hjn' : 2 * j + 1 < Y.length := by omega
      have ixa := ixL (2 * j) g1
      have ixb := ixL (2 * j + 1) g2
      have lda := int_load (h := [intR.row 3 (U ++ r), rectR.row 39 o', intR.row 3 Lq]) (b := 2) (l := Lq) (i := 2 * j) (sz := some 1) rfl g1
      have ldb := int_load (h := [intR.row 3 (U ++ r), rectR.row 39 o', intR.row 3 Lq]) (b := 2) (l := Lq) (i := 2 * j + 1) (sz := some 1) rfl g2
      rw [g3] at lda
      rw [g4] at ldb
      have ih := ih (o' ++ [⟨x0, s.1, x1, s.2⟩]) (by rw [List.length_append]; show o'.length + 1 = _; omega)
      rw [emit_cons7, ← List.append_assoc]
      simp -implicitDefEqProofs [k11_25, -List.append_assoc, -Int.natCast_add, -Int.natCast_mul] at ih
      simp -implicitDefEqProofs [r11_25, k11_25, Rec.sl_len, wi, w2, w3, hjn, hjn', px, pl, px1, pl1, ixa, ixb, lda, ldb, b4_all, lit_rect, st, trim_le, -List.append_assoc, -Int.natCast_add, -Int.natCast_mul]
      exact ih
    ·simp -implicitDefEqProofs [k11_18, Rec.sl_nil]
    ·rfl
    ·intro nx j c hj _
     simp -implicitDefEqProofs [r11_18, k11_18, hj, sln, hsl, trim_le]
    ·intro nx j s rest c hj hv hd hw hc ih
     have sj := six j hj
     rw [hv, side_val] at sj
     have us := up_spec s
     have hjp : j < p.length := by omega
     have ap := fun q => app_num (h := [intR.row 3 (U ++ r), rectR.row 39 o, intR.row 3 c, q]) (b := 2) (lo := 0) (c := c) s.1.2 rfl (Nat.zero_le _) (by omega)
     cases hu : upS s
     ·rw [hu] at us
      by_cases m1 : min s.1.1 s.2.1 ≤ x0
      ·by_cases m2 : x0 < max s.1.1 s.2.1
       ·have ih := ih (c ++ [s.1.2]) (by simp; omega)
        rw [List.filter_cons_of_pos (Rg.hB_iff.2 ⟨m1, m2⟩), List.map_cons, show c ++ s.1.2 :: (rest.filter (hB x0)).map (fun s => s.1.2) = c ++ [s.1.2] ++ (rest.filter (hB x0)).map (fun s => s.1.2) by rw [List.append_assoc]; rfl]
        simp -implicitDefEqProofs [k11_18, -List.append_assoc] at ih
        simp -implicitDefEqProofs [r11_18, k11_18, hj, hjp, sln, hsl, sj, ret0 m36, us, px, pl2, min_int, max_int, m1, m2, lit_num, ap, hw, trim_cut, bP, bS, Rec.sl_bel, Rec.row_bel, pre_bel, -List.append_assoc]
        exact ih
       ·have ih := ih c (by omega)
        rw [List.filter_cons_of_neg (by rw [Rg.hB_iff]; omega)]
        simp -implicitDefEqProofs [k11_18, -List.append_assoc] at ih
        simp -implicitDefEqProofs [r11_18, k11_18, hj, hjp, sln, hsl, sj, ret0 m36, us, px, pl2, min_int, max_int, m1, m2, hw, trim_cut, bP, bS, Rec.sl_bel, Rec.row_bel, pre_bel, -List.append_assoc]
        exact ih
      ·have ih := ih c (by omega)
       rw [List.filter_cons_of_neg (by rw [Rg.hB_iff]; omega)]
       simp -implicitDefEqProofs [k11_18, -List.append_assoc] at ih
       simp -implicitDefEqProofs [r11_18, k11_18, hj, hjp, sln, hsl, sj, ret0 m36, us, px, pl2, min_int, max_int, m1, hw, trim_cut, bP, bS, Rec.sl_bel, Rec.row_bel, pre_bel, -List.append_assoc]
       exact ih
     ·rw [hu] at us
      have ih := ih c (by omega)
      rw [List.filter_cons_of_neg (by rw [hB_up hu]; decide)]
      simp -implicitDefEqProofs [k11_18, -List.append_assoc] at ih
      simp -implicitDefEqProofs [r11_18, k11_18, hj, hjp, sln, hsl, sj, ret0 m36, us, px, pl2, min_int, max_int, hw, trim_cut, bP, bS, Rec.sl_bel, Rec.row_bel, pre_bel, -List.append_assoc]
      exact ih
   ·have hi' : ¬ ((i : Int) < (U.length : Int) - 1) := by omega
    rw [strip_end hi, List.append_nil]
    simp -implicitDefEqProofs [r11_14, k11_14, pre_len, wl, hi, hi', trim_le]
 ·simp -implicitDefEqProofs [k11_5, Rec.sl_nil]
 ·rfl
 ·intro nx i c hi _
  simp -implicitDefEqProofs [r11_5, k11_5, hi, ln, trim_le]
 ·intro nx i v rest c hi hv hd hw hc ih
  have pi := pix i hi
  rw [hv, span_val] at pi
  have ap := fun q => app_num (h := [intR.row 3 c, q]) (b := 0) (lo := 0) (c := c) v.1 rfl (Nat.le_refl _) (by omega)
  have ih := ih (c ++ [v.1]) (by simp; omega)
  have em : (v :: rest).map (·.1) = [v.1] ++ rest.map (·.1) := rfl
  rw [em, ← List.append_assoc]
  simp -implicitDefEqProofs [k11_5, -List.append_assoc] at ih
  simp -implicitDefEqProofs [r11_5, k11_5, hi, ln, pi, lit_num, ap, hw, trim_cut, bP, Rec.sl_bel, Rec.row_bel, -List.append_assoc]
  exact ih
end Go.Proofs.Ytcjdpkifooenkaa.Bm
namespace Go.Proofs.Ytcjdpkifooenkaa.Bm
open Go Go.RowKit
open Rg (Rect Pt sidesP shoe sumZ shoeP shR rightP)
def areaP (p : List Pt) : Int := if rightP p then (shoeP p).tdiv 2 else 0
theorem shoe_le {s : Pt × Pt} (h1 : Rg.onG s.1) (h2 : Rg.onG s.2) : 0 ≤ s.1.1 * s.2.2 ∧ s.1.1 * s.2.2 ≤ 1099511627776 ∧ 0 ≤ s.2.1 * s.1.2 ∧ s.2.1 * s.1.2 ≤ 1099511627776 := by
 obtain ⟨⟨a, b⟩, c, d⟩ := s
 obtain ⟨a0, a1, b0, b1⟩ := h1
 obtain ⟨c0, c1, d0, d1⟩ := h2
 simp only at *
 exact ⟨Int.mul_nonneg a0 d0, Int.le_trans (Int.mul_le_mul a1 d1 d0 (by decide)) (by decide), Int.mul_nonneg c0 b0, Int.le_trans (Int.mul_le_mul c1 b1 b0 (by decide)) (by decide)⟩
set_option maxHeartbeats 1000000 in
theorem parea_spec (x : Bool) (p : List Pt) (hp : p.length ≤ 1000000) : pureCall E.P (L E) 13 [lst x (spanR.vals p)] = some (.int .i64 (areaP p)) := by
 have hR := pright_spec x p hp
 have rf : ∀ h, reify E.P 8 h (lst x (spanR.vals p)) = some (lst x (spanR.vals p)) := fun _ => rfl
 have sv0 : settled depth (lst x (spanR.vals p)) = true := rfl
 have bP : ∀ d n, below (d + 1) n (lst x (spanR.vals p)) = true := fun d n => rfl
 unfold areaP
 rw [pureCall_fn F13 rfl]
 cases hr : rightP p
 ·rw [hr] at hR
  simp -implicitDefEqProofs [r13, p13, ret0 m14, rf, hR]
 rw [hr] at hR
 have hpo := Rg.rightP_poly hr
 obtain ⟨hp4, hp60⟩ := Rg.rightP_len hr
 have ar := around_spec x p (by omega)
 have sln := sides_lenT p
 have hsl := Rg.sides_len p
 have bS : ∀ d n, below (d + 1) n (lst false (sideR.vals (sidesP p))) = true := fun d n => rfl
 have six : ∀ (j : Nat) (hj : j < (sidesP p).length), indexAddrT (.sl 53 ⟨some true, some 4⟩) (lst false (sideR.vals (sidesP p))) (.int .i64 (j : Int)) = some (cptr (sideR.val (sidesP p)[j])) := fun j hj => Rec.index_tree rfl hj
 generalize hPV : lst x (spanR.vals p) = PV at *
 generalize hSV : lst false (sideR.vals (sidesP p)) = SV at *
 simp -implicitDefEqProofs [r13, p13, ret0 m14, rf, hR, ret1 m35, sv0, ar, sln]
 rw [LL_for (γ := Int) (sidesP p) 0 (fun i c => [(3, .int .i64 c), (12, .int .i64 i)]) (fun _ _ => []) (fun _ rest c => (.exit 0, [(3, .int .i64 (c + sumZ shoe rest)), (12, undef)], [])) (fun i c => -2000000000000 * i ≤ c ∧ c ≤ 2000000000000 * i) (by omega) (by omega)]
 ·have e : (0 : Int) + sumZ shoe (sidesP p) = shoeP p := Int.zero_add _
  rw [e]
  have hb : -1000000000000000 ≤ shoeP p ∧ shoeP p ≤ 1000000000000000 := by
   have key : ∀ l : List (Pt × Pt), (∀ s ∈ l, s ∈ sidesP p) → -2000000000000 * (l.length : Int) ≤ sumZ shoe l ∧ sumZ shoe l ≤ 2000000000000 * (l.length : Int) := by
    intro l
    induction l with
    | nil => intro _; exact ⟨by decide, by decide⟩
    | cons s l ih =>
     intro h
     have ih := ih fun t ht => h t (List.mem_cons_of_mem _ ht)
     obtain ⟨m1, m2⟩ := Rg.sides_mem (h s (List.mem_cons_self ..))
     have q := shoe_le (hpo.grid _ m1) (hpo.grid _ m2)
     have es : sumZ shoe (s :: l) = (s.1.1 * s.2.2 - s.2.1 * s.1.2) + sumZ shoe l := rfl
     have el : ((s :: l).length : Int) = (l.length : Int) + 1 := by simp
     rw [es, el]
     omega
   have := key (sidesP p) fun _ h => h
   rw [hsl] at this
   unfold shoeP
   omega
  have wq : IntKind.i64.wrap ((shoeP p).tdiv 2) = (shoeP p).tdiv 2 := by
   have h1 : (shoeP p).tdiv 2 ≤ 1000000000000000 ∧ -1000000000000000 ≤ (shoeP p).tdiv 2 := by
    rcases Int.le_total 0 (shoeP p) with h | h
    ·rw [Int.tdiv_eq_ediv_of_nonneg h]; omega
    ·obtain ⟨y, hy⟩ : ∃ y, shoeP p = -y := ⟨-shoeP p, by omega⟩
     rw [hy, Int.neg_tdiv, Int.tdiv_eq_ediv_of_nonneg (by omega)]; omega
   exact wrap64 (by omega) (by omega)
  generalize shoeP p = z at *
  simp -implicitDefEqProofs [k13_5, bin_quo, wq]
 ·simp -implicitDefEqProofs [k13_5]
 ·rfl
 ·intro nx i c hi _
  simp -implicitDefEqProofs [r13_5, k13_5, hi, hsl, trim_le, sumZ]
 ·intro nx i s rest c hi hv hd hw hc ih
  have sj := six i hi
  rw [hv, side_val] at sj
  have hip : i < p.length := by omega
  obtain ⟨m1, m2⟩ := Rg.sides_mem (by rw [← hv]; exact List.getElem_mem hi : s ∈ sidesP p)
  have q := shoe_le (hpo.grid _ m1) (hpo.grid _ m2)
  have ea : c + sumZ shoe (s :: rest) = (c + (s.1.1 * s.2.2 - s.2.1 * s.1.2)) + sumZ shoe rest := by
   show c + ((s.1.1 * s.2.2 - s.2.1 * s.1.2) + sumZ shoe rest) = _
   omega
  rw [ea]
  have ih := ih (c + (s.1.1 * s.2.2 - s.2.1 * s.1.2)) (by push_cast; omega)
  have hl : (i : Int) < 60 := by omega
  have wu : IntKind.i64.wrap (s.1.1 * s.2.2) = s.1.1 * s.2.2 := wrap64 (by omega) (by omega)
  have wv : IntKind.i64.wrap (s.2.1 * s.1.2) = s.2.1 * s.1.2 := wrap64 (by omega) (by omega)
  have wd : IntKind.i64.wrap (s.1.1 * s.2.2 - s.2.1 * s.1.2) = s.1.1 * s.2.2 - s.2.1 * s.1.2 := wrap64 (by omega) (by omega)
  have wc : IntKind.i64.wrap (c + (s.1.1 * s.2.2 - s.2.1 * s.1.2)) = c + (s.1.1 * s.2.2 - s.2.1 * s.1.2) := wrap64 (by omega) (by omega)
  simp -implicitDefEqProofs [k13_5] at ih
  simp -implicitDefEqProofs [r13_5, k13_5, hi, hip, hsl, sj, wu, wv, wd, wc, hw, trim_cut, bP, bS]
  exact ih
end Go.Proofs.Ytcjdpkifooenkaa.Bm
namespace Go.Proofs.Ytcjdpkifooenkaa.Rg
structure Inj (n : Nat) (f : Nat → Nat) : Prop where
 lt : ∀ i, i < n → f i < n
 inj : ∀ i j, i < n → j < n → f i = f j → i = j
def trc (f : Nat → Nat) : Nat → List Bool → Nat → List Bool × List Nat
 | 0, d, _ => (d, [])
 | k + 1, d, i => if d[i]? = some false then ((trc f k (d.set i true) (f i)).1, i :: (trc f k (d.set i true) (f i)).2) else (d, [])
structure Cyc (n : Nat) (f : Nat → Nat) (c : List Nat) : Prop where
 lt : ∀ i ∈ c, i < n
 nd : c.Nodup
 step : ∀ (j : Nat) (h : j + 1 < c.length), c[j + 1] = f c[j]
 back : ∀ (h : 0 < c.length), f (c[c.length - 1]) = c[0]
structure Clo (n : Nat) (f : Nat → Nat) (d : List Bool) : Prop where
 len : d.length = n
 fwd : ∀ i, i < n → (d[i]? = some true ↔ d[f i]? = some true)
structure Way (n : Nat) (f : Nat → Nat) (d : List Bool) (c : List Nat) (i : Nat) (e : List Bool) : Prop where
 lt : ∀ j ∈ c, j < n
 nd : c.Nodup
 step : ∀ (j : Nat) (h : j + 1 < c.length), c[j + 1] = f c[j]
 last : ∀ (h : 0 < c.length), f (c[c.length - 1]) = i
 il : i < n
 mark : ∀ j, j < n → (e[j]? = some true ↔ d[j]? = some true ∨ j ∈ c)
 len : e.length = n
 free : ∀ j ∈ c, d[j]? = some false
theorem set_mark {e : List Bool} {i n : Nat} (hl : e.length = n) (hi : i < n) (j : Nat) (_hj : j < n) : (e.set i true)[j]? = some true ↔ e[j]? = some true ∨ j = i := by
 rw [List.getElem?_set]
 by_cases q : i = j
 ·subst q
  rw [if_pos rfl, if_pos (by omega)]
  simp
 ·rw [if_neg q]
  constructor
  ·exact .inl
  ·rintro (h | h)
   ·exact h
   ·exact absurd h.symm q
theorem false_or_true {e : List Bool} {j : Nat} (h : j < e.length) : e[j]? = some false ∨ e[j]? = some true := by
 rw [List.getElem?_eq_getElem h]
 cases e[j] <;> simp
theorem Way.go {n : Nat} {f : Nat → Nat} (hf : Inj n f) {d e : List Bool} {c : List Nat} {i : Nat} (hd : d.length = n) (h : Way n f d c i e) (hi : e[i]? = some false) : Way n f d (c ++ [i]) (f i) (e.set i true) := by
 have hic : i ∉ c := fun q => by
  have := (h.mark i h.il).2 (.inr q)
  rw [hi] at this; cases this
 have hdi : d[i]? = some false := by
  rcases false_or_true (e := d) (j := i) (by rw [hd]; exact h.il) with q | q
  ·exact q
  ·have := (h.mark i h.il).2 (.inl q)
   rw [hi] at this; cases this
 refine ⟨fun j hj => ?_, ?_, fun j hj => ?_, fun _ => ?_, hf.lt i h.il, fun j hj => ?_, by rw [List.length_set]; exact h.len, fun j hj => ?_⟩
 ·rcases List.mem_append.1 hj with q | q
  ·exact h.lt j q
  ·rw [List.mem_singleton.1 q]; exact h.il
 ·rw [List.nodup_append]
  exact ⟨h.nd, by simp, fun a ha b hb => by rw [List.mem_singleton.1 hb]; exact fun q => hic (q ▸ ha)⟩
 ·rw [List.length_append] at hj
  have hj : j + 1 < c.length + 1 := hj
  by_cases q : j + 1 < c.length
  ·rw [List.getElem_append_left q, List.getElem_append_left (by omega)]
   exact h.step j q
  ·have e1 : j + 1 = c.length := by omega
   rw [List.getElem_append_right (by omega), List.getElem_append_left (by omega)]
   have := h.last (by omega)
   have e2 : c.length - 1 = j := by omega
   simp only [e2] at this
   simp [this]
 ·simp
 ·rw [set_mark h.len h.il j hj, h.mark j hj, List.mem_append, List.mem_singleton]
  constructor
  ·rintro ((q | q) | q)
   ·exact .inl q
   ·exact .inr (.inl q)
   ·exact .inr (.inr q)
  ·rintro (q | q | q)
   ·exact .inl (.inl q)
   ·exact .inl (.inr q)
   ·exact .inr q
 ·rcases List.mem_append.1 hj with q | q
  ·exact h.free j q
  ·rw [List.mem_singleton.1 q]; exact hdi
theorem Way.closed {n : Nat} {f : Nat → Nat} (hf : Inj n f) {d e : List Bool} {c : List Nat} {i : Nat} (hd : Clo n f d) (h : Way n f d c i e) (h0 : 0 < c.length) (hi : ¬ e[i]? = some false) : i = c[0] := by
 have hl := h.last h0
 have hcl : c[c.length - 1] ∈ c := List.getElem_mem _
 have hm : e[i]? = some true := by
  rcases false_or_true (e := e) (j := i) (by rw [h.len]; exact h.il) with q | q
  ·exact absurd q hi
  ·exact q
 rcases (h.mark i h.il).1 hm with q | q
 ·exfalso
  rw [← hl] at q
  have := (hd.fwd _ (h.lt _ hcl)).2 q
  rw [h.free _ hcl] at this; cases this
 ·obtain ⟨j, hj, e1⟩ := List.getElem_of_mem q
  cases j with
  | zero => exact e1.symm
  | succ j =>
   exfalso
   have hs := h.step j hj
   rw [e1, ← hl] at hs
   have := hf.inj _ _ (h.lt _ hcl) (h.lt _ (List.getElem_mem _)) hs
   have := (List.getElem_inj h.nd).1 this
   omega
def freeN (d : List Bool) : Nat := d.countP (· == false)
theorem freeN_set : ∀ {d : List Bool} {i : Nat}, d[i]? = some false → freeN (d.set i true) + 1 = freeN d
 | [], i, h => by simp at h
 | b :: d, 0, h => by
  have : b = false := by simpa using h
  subst this
  simp [freeN]
 | b :: d, i + 1, h => by
  have ih := freeN_set (d := d) (i := i) (by simpa using h)
  unfold freeN at *
  rw [List.set_cons_succ, List.countP_cons, List.countP_cons]
  omega
theorem trc_way {n : Nat} {f : Nat → Nat} (hf : Inj n f) {d : List Bool} (hd : Clo n f d) : ∀ (k : Nat) (e : List Bool) (c : List Nat) (i : Nat), Way n f d c i e → freeN e < k → 0 < c.length ∨ e[i]? = some false →
  Cyc n f (c ++ (trc f k e i).2) ∧ (∀ j, j < n → ((trc f k e i).1[j]? = some true ↔ d[j]? = some true ∨ j ∈ c ++ (trc f k e i).2)) ∧ (trc f k e i).1.length = n ∧ (∀ j ∈ c ++ (trc f k e i).2, d[j]? = some false)
 | 0, e, c, i, _, hk, _ => absurd hk (Nat.not_lt_zero _)
 | k + 1, e, c, i, h, hk, h0 => by
  unfold trc
  by_cases hi : e[i]? = some false
  ·rw [if_pos hi]
   have ih := trc_way hf hd k (e.set i true) (c ++ [i]) (f i) (h.go hf hd.len hi) (by have := freeN_set hi; omega) (.inl (by simp))
   rw [List.append_assoc] at ih
   exact ih
  ·rw [if_neg hi, List.append_nil]
   have h0 : 0 < c.length := by
    rcases h0 with q | q
    ·exact q
    ·exact absurd q hi
   have hc := h.closed hf hd h0 hi
   exact ⟨⟨h.lt, h.nd, h.step, fun _ => by rw [h.last h0]; exact hc⟩, h.mark, h.len, h.free⟩
theorem Cyc.clo {n : Nat} {f : Nat → Nat} (hf : Inj n f) {c : List Nat} (hc : Cyc n f c) : ∀ i, i < n → (i ∈ c ↔ f i ∈ c) := fun i hi => by
 constructor
 ·intro h
  obtain ⟨j, hj, rfl⟩ := List.getElem_of_mem h
  by_cases q : j + 1 < c.length
  ·rw [← hc.step j q]; exact List.getElem_mem _
  ·have e : j = c.length - 1 := by omega
   subst e
   rw [hc.back (by omega)]; exact List.getElem_mem _
 ·intro h
  obtain ⟨j, hj, e⟩ := List.getElem_of_mem h
  cases j with
  | zero =>
   have hb := hc.back (by omega)
   rw [e] at hb
   have := hf.inj _ _ (hc.lt _ (List.getElem_mem _)) hi hb
   rw [← this]; exact List.getElem_mem _
  | succ j =>
   have hs := hc.step j hj
   rw [e] at hs
   have := hf.inj _ _ hi (hc.lt _ (List.getElem_mem _)) hs
   rw [this]; exact List.getElem_mem _
def waysF (f : Nat → Nat) (n : Nat) : Nat → Nat → List Bool → List (List Nat)
 | 0, _, _ => []
 | m + 1, i, d => (trc f (n + 1) d i).2 :: waysF f n m (i + 1) (trc f (n + 1) d i).1
theorem freeN_le (d : List Bool) : freeN d ≤ d.length := List.countP_le_length
theorem ways_told {n : Nat} {f : Nat → Nat} (hf : Inj n f) : ∀ (m i : Nat) (d : List Bool), i + m = n → Clo n f d → (∀ j, j < i → d[j]? = some true) →
  (∀ c ∈ waysF f n m i d, Cyc n f c) ∧ (waysF f n m i d).flatten.Nodup ∧ (∀ j, j < n → (j ∈ (waysF f n m i d).flatten ↔ d[j]? = some false))
 | 0, i, d, h, hd, hb => by
  refine ⟨fun c hc => absurd hc List.not_mem_nil, List.nodup_nil, fun j hj => ⟨fun q => absurd q List.not_mem_nil, fun q => ?_⟩⟩
  rw [hb j (by omega)] at q; cases q
 | m + 1, i, d, h, hd, hb => by
  have hi : i < n := by omega
  unfold waysF
  rw [List.flatten_cons]
  by_cases q : d[i]? = some false
  ·obtain ⟨c1, c2, c3, c4⟩ := trc_way hf hd (n + 1) d [] i ⟨fun j hj => absurd hj List.not_mem_nil, List.nodup_nil, fun j hj => absurd hj (Nat.not_lt_zero _), fun hj => absurd hj (Nat.lt_irrefl _), hi, fun j _ => by simp, hd.len, fun j hj => absurd hj List.not_mem_nil⟩ (by have := freeN_le d; rw [hd.len] at this; omega) (.inr q)
   simp only [List.nil_append] at c1 c2 c4
   have hc : (trc f (n + 1) d i).2 = i :: (trc f n (d.set i true) (f i)).2 := by
    show (if d[i]? = some false then _ else _ : List Bool × List Nat).2 = _
    rw [if_pos q]
   have hic : i ∈ (trc f (n + 1) d i).2 := by rw [hc]; exact List.mem_cons_self ..
   generalize trc f (n + 1) d i = r at *
   obtain ⟨e, c⟩ := r
   simp only at c1 c2 c3 c4 hic ⊢
   have he : Clo n f e := ⟨c3, fun j hj => by rw [c2 j hj, c2 _ (hf.lt j hj), hd.fwd j hj, c1.clo hf j hj]⟩
   obtain ⟨i1, i2, i3⟩ := ways_told hf m (i + 1) e (by omega) he fun j hj => by
    by_cases p : j = i
    ·rw [p]; exact (c2 i hi).2 (.inr hic)
    ·exact (c2 j (by omega)).2 (.inl (hb j (by omega)))
   have hef : ∀ j, j < n → (e[j]? = some false ↔ d[j]? = some false ∧ j ∉ c) := fun j hj => by
    have := c2 j hj
    rcases false_or_true (e := e) (j := j) (by omega) with p | p
    ·rw [p] at this
     have h1 : ¬ (d[j]? = some true ∨ j ∈ c) := fun x => by have := this.2 x; cases this
     constructor
     ·intro _
      rcases false_or_true (e := d) (j := j) (by rw [hd.len]; exact hj) with p2 | p2
      ·exact ⟨p2, fun x => h1 (.inr x)⟩
      ·exact absurd (.inl p2) h1
     ·exact fun _ => p
    ·constructor
     ·intro x; rw [p] at x; cases x
     ·rintro ⟨x, y⟩
      rcases this.1 p with z | z
      ·rw [x] at z; cases z
      ·exact absurd z y
   refine ⟨fun c' hc' => ?_, ?_, fun j hj => ?_⟩
   ·rcases List.mem_cons.1 hc' with p | p
    ·rw [p]; exact c1
    ·exact i1 c' p
   ·rw [List.nodup_append]
    refine ⟨c1.nd, i2, fun a ha b hb2 hab => ?_⟩
    subst hab
    have := (i3 a (c1.lt a ha)).1 hb2
    exact ((hef a (c1.lt a ha)).1 this).2 ha
   ·rw [List.mem_append, i3 j hj, hef j hj]
    constructor
    ·rintro (p | p)
     ·exact c4 j p
     ·exact p.1
    ·intro p
     by_cases x : j ∈ c
     ·exact .inl x
     ·exact .inr ⟨p, x⟩
  ·have hc : trc f (n + 1) d i = (d, []) := by unfold trc; rw [if_neg q]
   rw [hc]
   obtain ⟨i1, i2, i3⟩ := ways_told hf m (i + 1) d (by omega) hd fun j hj => by
    by_cases p : j = i
    ·rw [p]
     rcases false_or_true (e := d) (j := i) (by rw [hd.len]; exact hi) with p2 | p2
     ·exact absurd p2 q
     ·exact p2
    ·exact hb j (by omega)
   refine ⟨fun c' hc' => ?_, by rw [List.nil_append]; exact i2, fun j hj => by rw [List.nil_append]; exact i3 j hj⟩
   rcases List.mem_cons.1 hc' with p | p
   ·rw [p]
    exact ⟨fun j hj => absurd hj List.not_mem_nil, List.nodup_nil, fun j hj => absurd hj (Nat.not_lt_zero _), fun hj => absurd hj (Nat.lt_irrefl _)⟩
   ·exact i1 c' p
end Go.Proofs.Ytcjdpkifooenkaa.Rg
