/-
 Zones, plain: the cells that two regions have in common, counted, and the least one. Conditions: none. No program in sight.
-/
import Derived.Test.YtcclbpcifohhkaaGreatQT23
import Derived.Test.YtcclbpcifohhkaaGreatQT22
namespace Go.Proofs.YtcclbpcifohhkaaGreat.Bm
open Go Go.RowKit
open Rg (Rect Pt sidesP upS crossB onB sd okI okJ crI crJ rightP allFr allFr_step allFr_end)
theorem ub7 : E.P.underlying 4 = some .bool := by kernel_rfl
theorem beq (p q : Bool) : aBin E.P .eql 4 (.bool p) (.bool q) = some (.bool (p == q)) := bin_eql_bool ub7
theorem bne (p q : Bool) : aBin E.P .neq 4 (.bool p) (.bool q) = some (.bool (p != q)) := bin_neq_bool ub7
theorem side_index (p : List Pt) (j : Nat) (hj : j < p.length) : indexAddrT (.sl 97 ⟨some true, some 4⟩) (lst false (sideR.vals (sidesP p))) (.int .i64 (j : Int)) = some (cptr (sideR.val (sd p j))) := by
 have hs : j < (sidesP p).length := by rw [Rg.sides_len]; exact hj
 rw [Rg.sd_get hs]
 exact Rec.index_tree rfl hs
theorem sides_lenT (p : List Pt) (h : Heap) : lenT .sl h (lst false (sideR.vals (sidesP p))) = some (.int .i64 p.length) := by
 rw [Rec.tree_len, Rg.sides_len]
theorem pt_index (x : Bool) (p : List Pt) (j : Nat) (hj : j < p.length) : indexAddrT (.sl 66 ⟨some true, some 2⟩) (lst x (spanR.vals p)) (.int .i64 (j : Int)) = some (cptr (spanR.val (p.getD j (0, 0)))) := by
 have e : p.getD j (0, 0) = p[j] := by rw [List.getD_eq_getElem?_getD, List.getElem?_eq_getElem hj]; rfl
 rw [e]
 exact Rec.index_tree rfl hj
set_option maxHeartbeats 2000000 in
theorem pright_spec (x : Bool) (p : List Pt) (hp : p.length ≤ 1000000) : pureCall E.P (L E) 36 [lst x (spanR.vals p)] = some (.bool (rightP p)) := by
 have ln : ∀ h, lenT .sl h (lst x (spanR.vals p)) = some (.int .i64 p.length) := fun h => Rec.tree_len
 rw [pureCall_fn F36 rfl]
 by_cases h4 : p.length < 4
 ·have h4' : (p.length : Int) < 4 := by omega
  have e : rightP p = false := by unfold rightP; rw [decide_eq_false (by omega)]; rfl
  rw [e]
  simp -implicitDefEqProofs [r36, p36, ln, h4, h4']
 by_cases h60 : 60 < p.length
 ·have h60' : 60 < (p.length : Int) := by omega
  have h4' : ¬ ((p.length : Int) < 4) := by omega
  have e : rightP p = false := by unfold rightP; rw [decide_eq_false (show ¬ (p.length ≤ 60) by omega), Bool.and_false]; rfl
  rw [e]
  simp -implicitDefEqProofs [r36, p36, ln, h4, h4', h60, h60']
 have h4' : ¬ ((p.length : Int) < 4) := by omega
 have h60' : ¬ (60 < (p.length : Int)) := by omega
 have ar := around_spec x p (by omega)
 have sln := sides_lenT p
 have six := side_index p
 have pix := pt_index x p
 have hE : rightP p = (allFr (okI p) 0 p.length && (allFr (crI p) 0 p.length && !upS (sd p 0))) := by
  unfold rightP
  rw [decide_eq_true (show 4 ≤ p.length by omega), decide_eq_true (show p.length ≤ 60 by omega), Bool.true_and, Bool.true_and, Bool.and_assoc]
 rw [hE]
 clear hE
 generalize hSV : lst false (sideR.vals (sidesP p)) = SV at *
 generalize hPV : lst x (spanR.vals p) = PV at *
 have sv0 : settled depth PV = true := by rw [← hPV]; rfl
 simp -implicitDefEqProofs [r36, p36, ln, h4, h4', h60, h60', ret1 m39, sv0, ar, sln]
 rw [LL_rec (α := Nat) 0 (fun i => [(21, .int .i64 (i : Int))]) (fun _ => []) (fun i => if allFr (okI p) i (p.length - i) then (.exit 0, [(21, undef)], []) else (.ret, [(2, .bool false), (21, undef)], [])) (fun i => i ≤ p.length) (fun i => p.length - i)]
 ·rw [Nat.sub_zero]
  cases hok : allFr (okI p) 0 p.length
  ·simp -implicitDefEqProofs [k36_5, sln]
  simp -implicitDefEqProofs [k36_5, sln]
  rw [LL_rec (α := Nat) 0 (fun i => [(78, .int .i64 (i : Int))]) (fun _ => []) (fun i => if allFr (crI p) i (p.length - i) then (.exit 2, [(78, undef)], []) else (.ret, [(2, .bool false), (78, undef)], [])) (fun i => i ≤ p.length) (fun i => p.length - i)]
  ·rw [Nat.sub_zero]
   have i0 := six 0 (by omega)
   rw [side_val] at i0
   have u0 := up_spec (sd p 0)
   generalize upS (sd p 0) = u at *
   cases hcr : allFr (crI p) 0 p.length
   ·simp -implicitDefEqProofs [k36_14]
   ·have i0' : indexAddrT (.sl 97 ⟨some true, some 4⟩) SV (.int .i64 0) = _ := i0
    simp -implicitDefEqProofs [k36_14, i0', ret0 m40, u0]
  ·exact Nat.zero_le _
  ·simp -implicitDefEqProofs [k36_14]
  ·rfl
  ·intro nx i hi ih
   by_cases h : i < p.length
   ·have h' : (i : Int) < (p.length : Int) := by omega
    have ih := ih (i + 1) (by omega) (by omega)
    have wi : IntKind.i64.wrap ((i : Int) + 1) = (i : Int) + 1 := wrap64 (by omega) (by omega)
    have wi2 : IntKind.i64.wrap ((i : Int) + 2) = ((i + 2 : Nat) : Int) := (wrap64 (by omega) (by omega)).trans (by omega)
    have ii := six i h
    rw [side_val] at ii
    rw [allFr_step h]
    generalize hq : allFr (crI p) (i + 1) (p.length - (i + 1)) = q at ih ⊢
    have ecr : crI p i = allFr (crJ p i) (i + 2) (p.length - (i + 2)) := rfl
    rw [ecr]
    simp -implicitDefEqProofs [k36_14] at ih
    simp -implicitDefEqProofs [r36_14, k36_14, h, h', sln, wi2, -Int.natCast_add]
    rw [LL_rec (α := Nat) (i + 2) (fun k => [(8, .int .i64 (k : Int))]) (fun _ => []) (fun k => if allFr (crJ p i) k (p.length - k) then (.exit 4, [(8, undef)], []) else (.ret, [(2, .bool false), (8, undef)], [])) (fun k => i + 2 ≤ k) (fun k => p.length - k)]
    ·cases allFr (crJ p i) (i + 2) (p.length - (i + 2))
     ·simp -implicitDefEqProofs [k36_17, trim_le]
     ·simp -implicitDefEqProofs [k36_17, wi, trim_le]
      exact ih
    ·exact Nat.le_refl _
    ·simp -implicitDefEqProofs [k36_17]
    ·rfl
    ·intro nx k hk ih
     by_cases hkn : k < p.length
     ·have hkn' : (k : Int) < (p.length : Int) := by omega
      have ih := ih (k + 1) (by omega) (by omega)
      have wk : IntKind.i64.wrap ((k : Int) + 1) = (k : Int) + 1 := wrap64 (by omega) (by omega)
      have w1 : IntKind.i64.wrap ((i : Int) + (p.length : Int)) = (i : Int) + (p.length : Int) := wrap64 (by omega) (by omega)
      have w2 : IntKind.i64.wrap ((i : Int) + (p.length : Int) - (k : Int)) = (i : Int) + (p.length : Int) - (k : Int) := wrap64 (by omega) (by omega)
      have ik := six k hkn
      rw [side_val] at ik
      have cs := crosses_spec (sd p i) (sd p k)
      rw [allFr_step hkn]
      have ecj : crJ p i k = !(decide (1 < i + p.length - k) && crossB (sd p i) (sd p k)) := rfl
      rw [ecj]
      generalize crossB (sd p i) (sd p k) = cb at *
      generalize allFr (crJ p i) (k + 1) (p.length - (k + 1)) = qk at ih ⊢
      simp -implicitDefEqProofs [k36_17] at ih
      by_cases h1 : 1 < i + p.length - k
      ·have h1' : 1 < (i : Int) + (p.length : Int) - (k : Int) := by omega
       cases cb
       ·simp -implicitDefEqProofs [r36_17, k36_17, hkn, hkn', sln, w1, w2, h1, h1', ii, ik, ret0 m58, cs, wk, trim_le]
        exact ih
       ·simp -implicitDefEqProofs [r36_17, k36_17, hkn, hkn', sln, w1, w2, h1, h1', ii, ik, ret0 m58, cs, wk, trim_le]
      ·have h1' : ¬ (1 < (i : Int) + (p.length : Int) - (k : Int)) := by omega
       simp -implicitDefEqProofs [r36_17, k36_17, hkn, hkn', sln, w1, w2, h1, h1', ii, ik, wk, trim_le]
       exact ih
     ·have hkn' : ¬ ((k : Int) < (p.length : Int)) := by omega
      rw [allFr_end (by omega)]
      simp -implicitDefEqProofs [r36_17, k36_17, hkn, hkn', sln, trim_le]
   ·have h' : ¬ ((i : Int) < (p.length : Int)) := by omega
    rw [allFr_end (by omega)]
    simp -implicitDefEqProofs [r36_14, k36_14, h, h', sln, trim_le]
 ·exact Nat.zero_le _
 ·simp -implicitDefEqProofs [k36_5, sln]
 ·rfl
 ·intro nx i hi ih
  by_cases h : i < p.length
  ·have h' : (i : Int) < (p.length : Int) := by omega
   have ih := ih (i + 1) (by omega) (by omega)
   have hm : (i + 1) % p.length < p.length := Nat.mod_lt _ (by omega)
   have wi : IntKind.i64.wrap ((i : Int) + 1) = ((i + 1 : Nat) : Int) := (wrap64 (by omega) (by omega)).trans (by omega)
   have rm := rem_nat (P := E.P) (t := 3) (m := i + 1) (n := p.length) (by omega)
   have ii := six i h
   have im := six _ hm
   have p0 := pix 0 (by omega)
   have p0' : indexAddrT (.sl 66 ⟨some true, some 2⟩) PV (.int .i64 0) = _ := p0
   have pI := pix i h
   rw [side_val] at ii im
   rw [span_val] at p0' pI
   have gs := grid_spec (sd p i).1
   have us := up_spec (sd p i)
   have un := up_spec (sd p ((i + 1) % p.length))
   have cp := compare_spec (p.getD 0 (0, 0)) (p.getD i (0, 0))
   have lt := cmpP_lt (p.getD 0 (0, 0)) (p.getD i (0, 0))
   rw [allFr_step h]
   have eok : okI p i = (onB (sd p i).1 && ((decide ((sd p i).1.1 = (sd p i).2.1) != decide ((sd p i).1.2 = (sd p i).2.2)) && (upS (sd p i) != upS (sd p ((i + 1) % p.length))) && (decide (i = 0) || Rg.ltP (p.getD 0 (0, 0)) (p.getD i (0, 0))))) := rfl
   rw [eok]
   clear p0 eok
   generalize hj : (i + 1) % p.length = j at *
   generalize p.getD 0 (0, 0) = a0 at *
   generalize p.getD i (0, 0) = ai at *
   generalize sd p i = s at *
   generalize sd p j = t at *
   obtain ⟨⟨sa, sb⟩, sc, se⟩ := s
   obtain ⟨⟨ta, tb⟩, tc, te⟩ := t
   generalize allFr (okI p) (i + 1) (p.length - (i + 1)) = qk at ih ⊢
   generalize cmpP a0 ai = cv at *
   generalize Rg.ltP a0 ai = lv at *
   generalize upS ((sa, sb), sc, se) = u1 at *
   generalize upS ((ta, tb), tc, te) = u2 at *
   simp only at ii im gs us un ⊢
   generalize onB (sa, sb) = g at *
   simp -implicitDefEqProofs [k36_5] at ih
   have bP : ∀ d n, below (d + 1) n PV = true := fun d n => by rw [← hPV]; rfl
   have bS : ∀ d n, below (d + 1) n SV = true := fun d n => by rw [← hSV]; rfl
   cases g
   ·simp -implicitDefEqProofs [r36_5, k36_5, h, h', sln, ii, im, wi, rm, ret0 m56, gs, bP, bS, trim_cut, -Int.natCast_add]
   by_cases q1 : sa = sc
   ·subst q1
    by_cases q2 : sb = se
    ·subst q2
     simp -implicitDefEqProofs [r36_5, k36_5, h, h', sln, ii, im, wi, rm, ret0 m56, gs, beq, ret0 m40, us, un, bP, bS, trim_cut, -Int.natCast_add]
    ·cases u1 <;> cases u2
     ·simp -implicitDefEqProofs [r36_5, k36_5, h, h', sln, ii, im, wi, rm, ret0 m56, gs, beq, ret0 m40, us, un, q2, bP, bS, trim_cut, -Int.natCast_add]
     ·by_cases i0 : i = 0
      ·rw [decide_eq_true i0]
       have ip : ¬ (0 < (i : Int)) := by omega
       have ipn : ¬ (0 < i) := by omega
       simp -implicitDefEqProofs [r36_5, k36_5, h, h', sln, ii, im, wi, rm, ret0 m56, gs, beq, ret0 m40, us, un, q2, ip, ipn, bP, bS, trim_cut, -Int.natCast_add]
       exact ih
      ·rw [decide_eq_false i0]
       have ip : 0 < (i : Int) := by omega
       have ipn : 0 < i := by omega
       cases lv
       ·have c0 : 0 ≤ cv := by by_cases z : cv < 0; exact absurd (lt.1 z) (by decide); omega
        simp -implicitDefEqProofs [r36_5, k36_5, h, h', sln, ii, im, wi, rm, ret0 m56, gs, beq, ret0 m40, us, un, q2, ip, ipn, p0', pI, ret0 m57, cp, c0, bP, bS, trim_cut, -Int.natCast_add]
       ·have c0 : ¬ (0 ≤ cv) := by have := lt.2 rfl; omega
        simp -implicitDefEqProofs [r36_5, k36_5, h, h', sln, ii, im, wi, rm, ret0 m56, gs, beq, ret0 m40, us, un, q2, ip, ipn, p0', pI, ret0 m57, cp, c0, bP, bS, trim_cut, -Int.natCast_add]
        exact ih
     ·by_cases i0 : i = 0
      ·rw [decide_eq_true i0]
       have ip : ¬ (0 < (i : Int)) := by omega
       have ipn : ¬ (0 < i) := by omega
       simp -implicitDefEqProofs [r36_5, k36_5, h, h', sln, ii, im, wi, rm, ret0 m56, gs, beq, ret0 m40, us, un, q2, ip, ipn, bP, bS, trim_cut, -Int.natCast_add]
       exact ih
      ·rw [decide_eq_false i0]
       have ip : 0 < (i : Int) := by omega
       have ipn : 0 < i := by omega
       cases lv
       ·have c0 : 0 ≤ cv := by by_cases z : cv < 0; exact absurd (lt.1 z) (by decide); omega
        simp -implicitDefEqProofs [r36_5, k36_5, h, h', sln, ii, im, wi, rm, ret0 m56, gs, beq, ret0 m40, us, un, q2, ip, ipn, p0', pI, ret0 m57, cp, c0, bP, bS, trim_cut, -Int.natCast_add]
       ·have c0 : ¬ (0 ≤ cv) := by have := lt.2 rfl; omega
        simp -implicitDefEqProofs [r36_5, k36_5, h, h', sln, ii, im, wi, rm, ret0 m56, gs, beq, ret0 m40, us, un, q2, ip, ipn, p0', pI, ret0 m57, cp, c0, bP, bS, trim_cut, -Int.natCast_add]
        exact ih
     ·simp -implicitDefEqProofs [r36_5, k36_5, h, h', sln, ii, im, wi, rm, ret0 m56, gs, beq, ret0 m40, us, un, q2, bP, bS, trim_cut, -Int.natCast_add]
   ·by_cases q2 : sb = se
    ·subst q2
     cases u1 <;> cases u2
     ·simp -implicitDefEqProofs [r36_5, k36_5, h, h', sln, ii, im, wi, rm, ret0 m56, gs, beq, ret0 m40, us, un, q1, bP, bS, trim_cut, -Int.natCast_add]
     ·by_cases i0 : i = 0
      ·rw [decide_eq_true i0]
       have ip : ¬ (0 < (i : Int)) := by omega
       have ipn : ¬ (0 < i) := by omega
       simp -implicitDefEqProofs [r36_5, k36_5, h, h', sln, ii, im, wi, rm, ret0 m56, gs, beq, ret0 m40, us, un, q1, ip, ipn, bP, bS, trim_cut, -Int.natCast_add]
       exact ih
      ·rw [decide_eq_false i0]
       have ip : 0 < (i : Int) := by omega
       have ipn : 0 < i := by omega
       cases lv
       ·have c0 : 0 ≤ cv := by by_cases z : cv < 0; exact absurd (lt.1 z) (by decide); omega
        simp -implicitDefEqProofs [r36_5, k36_5, h, h', sln, ii, im, wi, rm, ret0 m56, gs, beq, ret0 m40, us, un, q1, ip, ipn, p0', pI, ret0 m57, cp, c0, bP, bS, trim_cut, -Int.natCast_add]
       ·have c0 : ¬ (0 ≤ cv) := by have := lt.2 rfl; omega
        simp -implicitDefEqProofs [r36_5, k36_5, h, h', sln, ii, im, wi, rm, ret0 m56, gs, beq, ret0 m40, us, un, q1, ip, ipn, p0', pI, ret0 m57, cp, c0, bP, bS, trim_cut, -Int.natCast_add]
        exact ih
     ·by_cases i0 : i = 0
      ·rw [decide_eq_true i0]
       have ip : ¬ (0 < (i : Int)) := by omega
       have ipn : ¬ (0 < i) := by omega
       simp -implicitDefEqProofs [r36_5, k36_5, h, h', sln, ii, im, wi, rm, ret0 m56, gs, beq, ret0 m40, us, un, q1, ip, ipn, bP, bS, trim_cut, -Int.natCast_add]
       exact ih
      ·rw [decide_eq_false i0]
       have ip : 0 < (i : Int) := by omega
       have ipn : 0 < i := by omega
       cases lv
       ·have c0 : 0 ≤ cv := by by_cases z : cv < 0; exact absurd (lt.1 z) (by decide); omega
        simp -implicitDefEqProofs [r36_5, k36_5, h, h', sln, ii, im, wi, rm, ret0 m56, gs, beq, ret0 m40, us, un, q1, ip, ipn, p0', pI, ret0 m57, cp, c0, bP, bS, trim_cut, -Int.natCast_add]
       ·have c0 : ¬ (0 ≤ cv) := by have := lt.2 rfl; omega
        simp -implicitDefEqProofs [r36_5, k36_5, h, h', sln, ii, im, wi, rm, ret0 m56, gs, beq, ret0 m40, us, un, q1, ip, ipn, p0', pI, ret0 m57, cp, c0, bP, bS, trim_cut, -Int.natCast_add]
        exact ih
     ·simp -implicitDefEqProofs [r36_5, k36_5, h, h', sln, ii, im, wi, rm, ret0 m56, gs, beq, ret0 m40, us, un, q1, bP, bS, trim_cut, -Int.natCast_add]
    ·simp -implicitDefEqProofs [r36_5, k36_5, h, h', sln, ii, im, wi, rm, ret0 m56, gs, beq, ret0 m40, us, un, q1, q2, bP, bS, trim_cut, -Int.natCast_add]
  ·have h' : ¬ ((i : Int) < (p.length : Int)) := by omega
   rw [allFr_end (by omega)]
   simp -implicitDefEqProofs [r36_5, k36_5, h, h', sln, trim_le]
open Rg (Rect scan scan_le putAt insN sortU edgesX)
def iT (l : List Int) : Value := lst false (l.map (.int .i64))
theorem iT_len {h : Heap} {l : List Int} : lenT .sl h (iT l) = some (.int .i64 l.length) := by unfold iT; rw [len_lst]; simp
theorem iT_index {l : List Int} {i : Nat} (hi : i < l.length) : indexAddrT (.sl 3 ⟨some false, some 1⟩) (iT l) (.int .i64 (i : Int)) = some (cptr (.int .i64 l[i])) := by
 unfold iT
 have e : (l.map (Value.int .i64))[i]? = some (.int .i64 l[i]) := by simp [hi]
 rw [index_lst, if_pos (by omega), show ((i : Int)).toNat = i by omega, e, Option.bind_some, if_pos (by rfl)]
theorem iT_set (l : List Int) : settled depth (iT l) = true := rfl
theorem iT_reify (h : Heap) (l : List Int) : reify E.P 8 h (iT l) = some (iT l) := rfl
theorem g3 : aggT E.P 3 = some false := by kernel_rfl
theorem int_reifyR {h : Heap} {b : Nat} {l : List Int} (hob : h[b]? = some (intR.row 3 l)) : reifyR E.P h (intR.sl b l) = some (iT l) := by
 have e0 : intR.sl b l = .slice (some ⟨b, 0, some l.length⟩) l.length l.length := by unfold Rec.sl; simp [intR]
 show reify E.P 8 h (intR.sl b l) = _
 rw [e0, reify_slice]
 by_cases h0 : l.length = 0
 ·have : l = [] := List.eq_nil_of_length_eq_zero h0
  subst this; rfl
 ·rw [if_neg h0, hob]
  unfold Rec.row
  rw [int_flat]
  show reifyS E.P 7 h (some (.cells 3 (l.map (.int .i64)) 1)) _ _ = _
  rw [reifyS_cells, s3, Option.bind_some, if_pos ⟨by simp [stampOk], Nat.one_pos, by simp⟩]
  have e : ((l.map (Value.int .i64)).drop 0).take (l.length * 1) = l.map (.int .i64) := by rw [List.drop_zero, Nat.mul_one, List.take_of_length_le (by simp)]
  rw [e, reifyC_set (by simp [List.all_eq_true]), Option.bind_some, elems_one g3 s3]; rfl
theorem int_freeze {h : Heap} {lo b : Nat} {l : List Int} (hob : h[b]? = some (intR.row 3 l)) (hlo : lo ≤ b) : ∃ g, freezeV E.P depth lo h (intR.sl b l) = some (iT l, g) := by
 have e0 : intR.sl b l = .slice (some ⟨b, 0, some l.length⟩) l.length l.length := by unfold Rec.sl; simp [intR]
 have hob' : h[b]? = some (.cells 3 (l.map (.int .i64)) 1) := by rw [hob]; unfold Rec.row; rw [int_flat]; rfl
 rw [e0]
 exact ⟨_, frz_one8 hob' s3 g3 hlo (List.length_map _).symm (List.length_map _).symm (by simp [List.all_eq_true])⟩
theorem int_sl {b : Nat} {c d : List Int} (h : c.length = d.length) : intR.sl b c = intR.sl b d := by unfold Rec.sl; rw [h]
theorem int_index {g : Option Bool} {b : Nat} {l : List Int} {i : Nat} (h1 : i < l.length) : indexAddrT (.sl 3 ⟨g, some 1⟩) (intR.sl b l) (.int .i64 (i : Int)) = some (intR.at_ b l i 0) := Rec.index_row (R := intR) rfl h1
theorem int_load {h : Heap} {b : Nat} {l : List Int} {i : Nat} {sz : Option Nat} (hob : h[b]? = some (intR.row 3 l)) (h1 : i < l.length) : loadT ⟨some false, sz⟩ h (intR.at_ b l i 0) = some (.int .i64 l[i]) := Rec.load_cell (R := intR) (j := 0) hob h1 (by decide)
theorem int_store {h : Heap} {b lo : Nat} {l : List Int} {i : Nat} (z : Int) (hob : h[b]? = some (intR.row 3 l)) (hlo : lo ≤ b) (h1 : i < l.length) : storeT (some 1) h lo (.int .i64 z) (intR.at_ b l i 0) = some (h.set b (intR.row 3 (l.set i z))) :=
 Rec.store_cell (R := intR) (j := 0) rfl hob hlo h1 (by decide) rfl
theorem lit_num (h : Heap) (z : Int) : buildSliceT (some ⟨3, 1, 8, .int .i64 0, ⟨some false, some 1⟩⟩) false h 1 #[(0, .int .i64 z)] = some (lst true [.int .i64 z], h) :=
 (build_lit' (n := 1) (l := [(0, .int .i64 z)]) rfl rfl (by decide) (by decide) (by decide)).trans rfl
theorem app_num {h : Heap} {b lo : Nat} {c : List Int} (z : Int) (hob : h[b]? = some (intR.row 3 c)) (hlo : lo ≤ b) (hc : c.length ≤ 1000000) :
  appendT (some ⟨3, 1, 8, .int .i64 0, ⟨some false, some 1⟩⟩) h lo false (intR.sl b c) (lst true [.int .i64 z]) = some (intR.sl b (c ++ [z]), h.set b (intR.row 3 (c ++ [z]))) :=
 Rec.app (R := intR) (m := [z]) rfl hob (cells_lst (by rfl)) hlo (by show (c.length + 1) * 8 ≤ 2 ^ 47; omega)
def shiftRow (o : List Int) (m : Nat) : List Int := (o ++ [0]).take (m + 1) ++ o.drop m
theorem shiftRow_len {o : List Int} {m : Nat} (h : m ≤ o.length) : (shiftRow o m).length = o.length + 1 := by
 unfold shiftRow
 rw [List.length_append, List.length_take, List.length_drop, List.length_append]
 show min (m + 1) (o.length + 1) + (o.length - m) = _
 omega
theorem shiftRow_top (o : List Int) : shiftRow o o.length = o ++ [0] := by
 unfold shiftRow
 rw [List.drop_length, List.append_nil, List.take_of_length_le (by simp)]
theorem shiftRow_get {o : List Int} {m j : Nat} (h : m ≤ o.length) (hj : j < m) : (shiftRow o m)[j]'(by rw [shiftRow_len h]; omega) = o[j] := by
 unfold shiftRow
 rw [List.getElem_append_left (by rw [List.length_take, List.length_append]; simp; omega), List.getElem_take, List.getElem_append_left (by omega)]
theorem shiftRow_split {o : List Int} {m : Nat} (h : m ≤ o.length) : ∃ x, shiftRow o m = o.take m ++ x :: o.drop m := by
 refine ⟨(o ++ [0])[m]'(by simp; omega), ?_⟩
 unfold shiftRow
 rw [List.take_succ_eq_append_getElem (by simp; omega), List.take_append_of_le_length h, List.append_assoc]; rfl
theorem shiftRow_set {o : List Int} {m : Nat} (h : m ≤ o.length) (z : Int) : (shiftRow o m).set m z = putAt o m z := by
 obtain ⟨x, e⟩ := shiftRow_split h
 have hl : (o.take m).length = m := by rw [List.length_take]; omega
 rw [e, List.set_append_right _ _ (by omega), hl, Nat.sub_self]; rfl
theorem shiftRow_down {o : List Int} {m : Nat} (h : m + 1 ≤ o.length) : (shiftRow o (m + 1)).set (m + 1) (o[m]'(by omega)) = shiftRow o m := by
 rw [shiftRow_set h]
 unfold putAt shiftRow
 rw [List.take_append_of_le_length (by omega), List.drop_eq_getElem_cons (show m < o.length by omega)]
theorem sorted_spec (l : List Int) (hl : l.length ≤ 10000) : pureCall E.P (L E) 65 [iT l] = some (iT (sortU l)) := by
 rw [← Rg.insN_sortU, pureCall_fn F65 rfl]
 simp -implicitDefEqProofs [r65, p65, prep_new, newK_nil s3]
 rw [LL_for (γ := List Int) l [] (fun i o => [(3, intR.sl 0 o), (4, .int .i64 i)]) (fun _ o => [intR.row 3 o])
  (fun _ rest o => (.exit 0, [(3, intR.sl 0 (rest.foldl insN o)), (4, undef)], [intR.row 3 (rest.foldl insN o)])) (fun i o => o.length ≤ i) (by omega) (Nat.le_refl _)]
 ·have rr := int_reifyR (h := [intR.row 3 (l.foldl insN [])]) (b := 0) (l := l.foldl insN []) rfl
  simp -implicitDefEqProofs [k65_3, rr]
 ·simp -implicitDefEqProofs [k65_3, Rec.sl_nil]
 ·rfl
 ·intro nx i o hi _
  simp -implicitDefEqProofs [r65_3, k65_3, hi, iT_len, trim_le]
 ·intro nx i z rest o hi hv hd hw ho ih
  have ixl := iT_index hi
  rw [hv] at ixl
  have hle := scan_le (fun j => decide (z < o.getD j 0)) o.length
  have gd : ∀ j (hj : j < o.length), o.getD j 0 = o[j] := fun j hj => by rw [List.getD_eq_getElem?_getD, List.getElem?_eq_getElem hj]; rfl
  have ei : insN o z = if 0 < scan (fun j => decide (z < o.getD j 0)) o.length ∧ o.getD (scan (fun j => decide (z < o.getD j 0)) o.length - 1) 0 = z then o else putAt o (scan (fun j => decide (z < o.getD j 0)) o.length) z := rfl
  have ixo := fun (j : Nat) (hj : j < o.length) => int_index (g := some false) (b := 0) (l := o) hj
  have ldo := fun (j : Nat) (hj : j < o.length) => int_load (h := [intR.row 3 o]) (b := 0) (l := o) (sz := some 1) rfl hj
  rw [List.foldl_cons]
  simp -implicitDefEqProofs [r65_3, k65_3, hi, iT_len, Rec.sl_len]
  rw [LL_rec (α := Nat) o.length (fun k => [(5, .int .i64 (k : Int))]) (fun _ => [intR.row 3 o]) (fun k => (.exit 2, [(5, .int .i64 ((scan (fun j => decide (z < o.getD j 0)) k : Nat) : Int))], [intR.row 3 o])) (fun k => k ≤ o.length) (fun k => k)]
  ·generalize scan (fun j => decide (z < o.getD j 0)) o.length = k at hle ei ⊢
   have hk := hle
   have ap := app_num (h := [intR.row 3 o]) (b := 0) (lo := 0) (c := o) 0 rfl (Nat.le_refl _) (by omega)
   have wl : IntKind.i64.wrap (((o ++ [0]).length : Int) - 1) = (o.length : Int) := by
    have : (o ++ [0]).length = o.length + 1 := by simp
    rw [this]; exact (wrap64 (by omega) (by omega)).trans (by omega)
   by_cases hc : 0 < k ∧ o.getD (k - 1) 0 = z
   ·rw [ei, if_pos hc]
    obtain ⟨hk0, hkz⟩ := hc
    have hko : k - 1 < o.length := by omega
    rw [gd _ hko] at hkz
    have hpos : (0 : Int) < (k : Int) := by omega
    have w1 : IntKind.i64.wrap ((k : Int) - 1) = ((k - 1 : Nat) : Int) := (wrap64 (by omega) (by omega)).trans (by omega)
    have ih := ih o (by omega)
    simp -implicitDefEqProofs [k65_3] at ih
    simp -implicitDefEqProofs [k65_6, hk0, w1, ixo _ hko, ldo _ hko, ixl, hkz, hw, trim_le]
    exact ih
   ·rw [ei, if_neg hc]
    have ih := ih (putAt o k z) (by rw [Rg.putAt_len]; omega)
    simp -implicitDefEqProofs [k65_3] at ih
    have es : ∀ m, m ≤ o.length → intR.sl 0 (shiftRow o m) = intR.sl 0 (o ++ [0]) := fun m hm => int_sl (by rw [shiftRow_len hm]; simp)
    have ixs := fun (m : Nat) (hm : m ≤ o.length) (j : Nat) (hj : j < o.length + 1) => (es m hm) ▸ int_index (g := some false) (b := 0) (l := shiftRow o m) (i := j) (by rw [shiftRow_len hm]; exact hj)
    have esp : intR.sl 0 (putAt o k z) = intR.sl 0 (o ++ [0]) := int_sl (by rw [Rg.putAt_len]; simp)
    rw [esp] at ih
    have two : (¬ (0 : Int) < (k : Int)) ∨ ((0 : Int) < (k : Int) ∧ ∃ hko : k - 1 < o.length, ¬ o[k - 1] = z) := by
     by_cases h0 : 0 < k
     ·have hko : k - 1 < o.length := by omega
      exact .inr ⟨by omega, hko, fun e => hc ⟨h0, by rw [gd _ hko]; exact e⟩⟩
     ·exact .inl (by omega)
    have w1 : 0 < k → IntKind.i64.wrap ((k : Int) - 1) = ((k - 1 : Nat) : Int) := fun h => (wrap64 (by omega) (by omega)).trans (by omega)
    have ixk := ixs k hk k (by omega)
    have stk := int_store (h := [intR.row 3 (shiftRow o k)]) (b := 0) (lo := 0) (l := shiftRow o k) (i := k) z rfl (Nat.le_refl _) (by rw [shiftRow_len hk]; omega)
    rw [shiftRow_set hk] at stk
    rcases two with h0 | ⟨h0, hko, hne⟩
    ·have h0n : ¬ (0 < k) := by omega
     simp -implicitDefEqProofs [k65_6, h0n, lit_num, ap, Rec.sl_len, wl, -List.length_append]
     rw [LL_rec (α := Nat) o.length (fun m => [(6, .int .i64 (m : Int))]) (fun m => [intR.row 3 (shiftRow o m)]) (fun m => (.exit 4, [(6, undef)], [intR.row 3 (shiftRow o k)])) (fun m => k ≤ m ∧ m ≤ o.length) (fun m => m)]
     ·simp -implicitDefEqProofs [k65_11, ixk, stk, ixl, hw, trim_le]
      exact ih
     ·exact ⟨hk, Nat.le_refl _⟩
     ·simp -implicitDefEqProofs [k65_11]
     ·simp only [shiftRow_top]
     ·intro nx m hm ih
      by_cases hkm : k < m
      ·obtain ⟨m, rfl⟩ : ∃ m', m = m' + 1 := ⟨m - 1, by omega⟩
       have hmo : m < o.length := by omega
       have ih := ih m (by omega) ⟨by omega, by omega⟩
       have w3 : IntKind.i64.wrap ((m : Int) + 1 - 1) = (m : Int) := (wrap64 (by omega) (by omega)).trans (by omega)
       have w4 : IntKind.i64.wrap (m : Int) = (m : Int) := wrap64 (by omega) (by omega)
       have hkm' : (k : Int) < (m : Int) + 1 := by omega
       have ixa := ixs (m + 1) (by omega) m (by omega)
       have ixb := ixs (m + 1) (by omega) (m + 1) (by omega)
       have lda := int_load (h := [intR.row 3 (shiftRow o (m + 1))]) (b := 0) (l := shiftRow o (m + 1)) (i := m) (sz := some 1) rfl (by rw [shiftRow_len (by omega)]; omega)
       rw [shiftRow_get (by omega) (by omega)] at lda
       have sta := int_store (h := [intR.row 3 (shiftRow o (m + 1))]) (b := 0) (lo := 0) (l := shiftRow o (m + 1)) (i := m + 1) o[m] rfl (Nat.le_refl _) (by rw [shiftRow_len (by omega)]; omega)
       rw [shiftRow_down hmo] at sta
       push_cast at ixb
       simp -implicitDefEqProofs [k65_11] at ih
       simp -implicitDefEqProofs [r65_11, k65_11, hkm', w4, ixa, ixb, lda, sta, trim_le]
       exact ih
      ·have e : m = k := by omega
       subst e
       simp -implicitDefEqProofs [r65_11, k65_11, trim_le]
    ·have h0' : 0 < k := by omega
     simp -implicitDefEqProofs [k65_6, h0', w1 h0', ixo _ hko, ldo _ hko, ixl, hne, lit_num, ap, Rec.sl_len, wl, -List.length_append]
     rw [LL_rec (α := Nat) o.length (fun m => [(6, .int .i64 (m : Int))]) (fun m => [intR.row 3 (shiftRow o m)]) (fun m => (.exit 4, [(6, undef)], [intR.row 3 (shiftRow o k)])) (fun m => k ≤ m ∧ m ≤ o.length) (fun m => m)]
     ·simp -implicitDefEqProofs [k65_11, ixk, stk, ixl, hw, trim_le]
      exact ih
     ·exact ⟨hk, Nat.le_refl _⟩
     ·simp -implicitDefEqProofs [k65_11]
     ·simp only [shiftRow_top]
     ·intro nx m hm ih
      by_cases hkm : k < m
      ·obtain ⟨m, rfl⟩ : ∃ m', m = m' + 1 := ⟨m - 1, by omega⟩
       have hmo : m < o.length := by omega
       have ih := ih m (by omega) ⟨by omega, by omega⟩
       have w3 : IntKind.i64.wrap ((m : Int) + 1 - 1) = (m : Int) := (wrap64 (by omega) (by omega)).trans (by omega)
       have w4 : IntKind.i64.wrap (m : Int) = (m : Int) := wrap64 (by omega) (by omega)
       have hkm' : (k : Int) < (m : Int) + 1 := by omega
       have ixa := ixs (m + 1) (by omega) m (by omega)
       have ixb := ixs (m + 1) (by omega) (m + 1) (by omega)
       have lda := int_load (h := [intR.row 3 (shiftRow o (m + 1))]) (b := 0) (l := shiftRow o (m + 1)) (i := m) (sz := some 1) rfl (by rw [shiftRow_len (by omega)]; omega)
       rw [shiftRow_get (by omega) (by omega)] at lda
       have sta := int_store (h := [intR.row 3 (shiftRow o (m + 1))]) (b := 0) (lo := 0) (l := shiftRow o (m + 1)) (i := m + 1) o[m] rfl (Nat.le_refl _) (by rw [shiftRow_len (by omega)]; omega)
       rw [shiftRow_down hmo] at sta
       push_cast at ixb
       simp -implicitDefEqProofs [k65_11] at ih
       simp -implicitDefEqProofs [r65_11, k65_11, hkm', w4, ixa, ixb, lda, sta, trim_le]
       exact ih
      ·have e : m = k := by omega
       subst e
       simp -implicitDefEqProofs [r65_11, k65_11, trim_le]
  ·exact Nat.le_refl _
  ·simp -implicitDefEqProofs [k65_6]
  ·rfl
  ·intro nx k hk ih
   cases k with
   | zero => simp -implicitDefEqProofs [r65_6, k65_6, scan, trim_le]
   | succ k =>
    have hko : k < o.length := by omega
    have w1 : IntKind.i64.wrap ((k : Int) + 1 - 1) = (k : Int) := (wrap64 (by omega) (by omega)).trans (by omega)
    have w2 : IntKind.i64.wrap (k : Int) = (k : Int) := wrap64 (by omega) (by omega)
    have hpos : (0 : Int) < (k : Int) + 1 := by omega
    have ih := ih k (by omega) (by omega)
    have e : scan (fun j => decide (z < o.getD j 0)) (k + 1) = if decide (z < o.getD k 0) then scan (fun j => decide (z < o.getD j 0)) k else k + 1 := rfl
    rw [e, gd k hko]
    simp -implicitDefEqProofs [k65_6] at ih
    by_cases hz : z < o[k]
    ·simp -implicitDefEqProofs [r65_6, k65_6, hpos, w2, ixo k hko, ldo k hko, ixl, hz, trim_le]
     exact ih
    ·simp -implicitDefEqProofs [r65_6, k65_6, hpos, w2, ixo k hko, ldo k hko, ixl, hz, trim_le]
open Rg (Rect Slab Pt sidesP upS hB ysP colY polyL rightP sortU stripL outT emit pairs ends)
def polyX (p : List Pt) : Except Int (List Rect) := if rightP p then (if 200 < (polyL p).length then .error 6 else .ok (polyL p)) else .error 10
theorem ends_even7 : ∀ {c : List (Int × Int)} {j : Nat} (hj : j < c.length), (ends c)[2 * j]? = some c[j].1 ∧ (ends c)[2 * j + 1]? = some c[j].2
 | [], j, hj => by simp at hj
 | s :: c, 0, _ => ⟨rfl, rfl⟩
 | s :: c, j + 1, hj => ends_even7 (c := c) (j := j) (by simpa using hj)
theorem ends_at7 {c : List (Int × Int)} {j : Nat} (hj : j < c.length) : ∃ (h1 : 2 * j < (ends c).length) (h2 : 2 * j + 1 < (ends c).length), (ends c)[2 * j] = c[j].1 ∧ (ends c)[2 * j + 1] = c[j].2 := by
 have hl := Rg.ends_len c
 obtain ⟨e1, e2⟩ := ends_even7 hj
 refine ⟨by omega, by omega, ?_, ?_⟩
 ·rw [List.getElem?_eq_getElem (by omega)] at e1; exact Option.some.inj e1
 ·rw [List.getElem?_eq_getElem (by omega)] at e2; exact Option.some.inj e2
theorem emit_cons7 (x0 x1 : Int) (s : Int × Int) (c : List (Int × Int)) : emit ⟨x0, x1, s :: c⟩ = [⟨x0, s.1, x1, s.2⟩] ++ emit ⟨x0, x1, c⟩ := rfl
theorem strip_step {c : Int → List (Int × Int)} {U : List Int} {i : Nat} (h : i + 1 < U.length) : outT (stripL c (U.drop i)) = emit ⟨U[i], U[i + 1], c U[i]⟩ ++ outT (stripL c (U.drop (i + 1))) := by
 rw [List.drop_eq_getElem_cons (show i < U.length by omega), List.drop_eq_getElem_cons h]; rfl
theorem strip_end {c : Int → List (Int × Int)} {U : List Int} {i : Nat} (h : ¬ i + 1 < U.length) : outT (stripL c (U.drop i)) = [] := by
 have hl : (U.drop i).length ≤ 1 := by rw [List.length_drop]; omega
 match U.drop i, hl with
 | [], _ => rfl
 | [_], _ => rfl
theorem hB_up {x : Int} {s : Pt × Pt} (h : upS s = true) : hB x s = false := by
 unfold upS at h
 rw [decide_eq_true_eq] at h
 cases q : hB x s
 ·rfl
 ·rw [Rg.hB_iff] at q; omega
set_option maxHeartbeats 4000000 in
theorem pregion_spec (x : Bool) (p : List Pt) (hp : p.length ≤ 1000000) : pureCall E.P (L E) 19 [lst x (spanR.vals p)] = some (resL (polyX p)) := by
 have ln : ∀ h, lenT .sl h (lst x (spanR.vals p)) = some (.int .i64 p.length) := fun h => Rec.tree_len
 have hR := pright_spec x p hp
 have rf : ∀ h, reify E.P 8 h (lst x (spanR.vals p)) = some (lst x (spanR.vals p)) := fun _ => rfl
 have sv0 : settled depth (lst x (spanR.vals p)) = true := rfl
 have bP : ∀ d n, below (d + 1) n (lst x (spanR.vals p)) = true := fun d n => rfl
 have pix : ∀ (j : Nat) (hj : j < p.length), indexAddrT (.sl 66 ⟨some true, some 2⟩) (lst x (spanR.vals p)) (.int .i64 (j : Int)) = some (cptr (spanR.val p[j])) := fun j hj => Rec.index_tree rfl hj
 rw [pureCall_fn F19 rfl]
 unfold polyX
 generalize hPV : lst x (spanR.vals p) = PV at *
 cases hr : rightP p
 ·rw [hr] at hR
  simp -implicitDefEqProofs [r19, p19, ret0 m36, rf, hR, resL]
 rw [hr] at hR
 obtain ⟨hp4, hp60⟩ := Rg.rightP_len hr
 simp -implicitDefEqProofs [r19, p19, ret0 m36, rf, hR, prep_new, newK_nil s3, ln]
 rw [LL_for (γ := List Int) p [] (fun i c => [(4, intR.sl 0 c), (19, .int .i64 i)]) (fun _ c => [intR.row 3 c])
  (fun _ rest c => (.exit 0, [(4, intR.sl 0 (c ++ rest.map (·.1))), (19, undef)], [intR.row 3 (c ++ rest.map (·.1))])) (fun i c => c.length = i) (by omega) rfl]
 ·rw [List.nil_append]
  have hxl : (p.map (·.1)).length = p.length := List.length_map _
  have hU : (sortU (p.map (·.1))).length ≤ p.length := by
   have := Rg.sortU_le (p.map (·.1)); omega
  have so := sortInts (h := [intR.row 3 (p.map (·.1))]) (b := 0) (lo := 0) (d := p.map (·.1)) rfl (Nat.le_refl _) (by omega)
  obtain ⟨r, co, hrl⟩ := compInts (h := [intR.row 3 (sortI (p.map (·.1)))]) (b := 0) (lo := 0) (d := sortI (p.map (·.1))) rfl (Nat.le_refl _) (by rw [sortI_len]; omega)
  rw [Rg.comp_sort] at co hrl
  have e1 : intR.sl 0 (sortI (p.map (·.1))) = intR.sl 0 (p.map (·.1)) := by unfold Rec.sl; rw [sortI_len]
  rw [e1, sortI_len, hxl] at co
  rw [sortI_len, hxl] at hrl
  have ar : pureCall E.P (L E) 39 [PV] = some (lst false (sideR.vals (sidesP p))) := by rw [← hPV]; exact around_spec x p (by omega)
  have sln := sides_lenT p
  have bS : ∀ d n, below (d + 1) n (lst false (sideR.vals (sidesP p))) = true := fun d n => rfl
  have six : ∀ (j : Nat) (hj : j < (sidesP p).length), indexAddrT (.sl 97 ⟨some true, some 4⟩) (lst false (sideR.vals (sidesP p))) (.int .i64 (j : Int)) = some (cptr (sideR.val (sidesP p)[j])) := fun j hj => Rec.index_tree rfl hj
  have hsl := Rg.sides_len p
  have ePL : polyL p = outT (stripL (colY p) (sortU (p.map (·.1)))) := rfl
  rw [ePL]
  have hev : ∀ x, (sortI (ysP p x)).length % 2 = 0 := fun x => by rw [sortI_len]; exact Rg.ys_even p x
  have hyl : ∀ x, (ysP p x).length ≤ p.length := fun x => Rg.ys_len p x
  have wl : IntKind.i64.wrap (((sortU (p.map (·.1))).length : Int) - 1) = ((sortU (p.map (·.1))).length : Int) - 1 := wrap64 (by omega) (by omega)
  simp -implicitDefEqProofs [k19_5, wl, ret2 (E := E) (f := 37) rfl, ret2 (E := E) (f := 38) rfl, so, co, ret1 m39, sv0, ar, prep_new, newK_nil s32, pre_len]
  generalize hSV : lst false (sideR.vals (sidesP p)) = SV at *
  generalize sortU (p.map (·.1)) = U at *
  clear so co e1 ePL hxl hR
  rw [LL_rec (α := Nat × List Rect) (0, []) (fun c => [(8, rectR.sl 1 c.2), (38, .int .i64 (c.1 : Int))]) (fun c => [intR.row 3 (U ++ r), rectR.row 84 c.2])
   (fun c => (.exit 2, [(8, rectR.sl 1 (c.2 ++ outT (stripL (colY p) (U.drop c.1)))), (38, undef)], [intR.row 3 (U ++ r), rectR.row 84 (c.2 ++ outT (stripL (colY p) (U.drop c.1)))])) (fun c => c.1 ≤ U.length ∧ c.2.length ≤ 100 * c.1) (fun c => U.length - c.1)]
  ·rw [List.drop_zero, List.nil_append]
   generalize outT (stripL (colY p) U) = F
   have rr := Rec.reify_row (R := rectR) (P := E.P) (h := [intR.row 3 (U ++ r), rectR.row 84 F]) (b := 1) (n := 7) (t := 84) (l := F) rfl s32 a32
   by_cases h2 : 200 < F.length
   ·have h2' : 200 < (F.length : Int) := by omega
    simp -implicitDefEqProofs [k19_14, Rec.sl_len, h2, h2', resL]
   ·have h2' : ¬ (200 < (F.length : Int)) := by omega
    simp -implicitDefEqProofs [k19_14, Rec.sl_len, h2, h2', rr, resL]
  ·exact ⟨Nat.zero_le _, Nat.zero_le _⟩
  ·simp -implicitDefEqProofs [k19_14, Rec.sl_nil]
  ·rfl
  ·intro nx c hc ih
   obtain ⟨i, o⟩ := c
   obtain ⟨h1, h2⟩ := hc
   simp only at h1 h2
   by_cases hi : i + 1 < U.length
   ·have hi' : (i : Int) < (U.length : Int) - 1 := by omega
    have wi : IntKind.i64.wrap ((i : Int) + 1) = ((i + 1 : Nat) : Int) := (wrap64 (by omega) (by omega)).trans (by omega)
    have px := pre_index (t := 3) (g := some false) (b := 0) (n := p.length) (k := .i64) (e := U) (i := i) (by omega)
    have px1 := pre_index (t := 3) (g := some false) (b := 0) (n := p.length) (k := .i64) (e := U) hi
    have pl := fun a b => pre_load (h := [intR.row 3 (U ++ r), a, b]) (b := 0) (n := p.length) (sz := some 1) (e := U) (i := i) rfl hrl (by omega)
    have pl2 := fun a b c => pre_load (h := [intR.row 3 (U ++ r), a, b, c]) (b := 0) (n := p.length) (sz := some 1) (e := U) (i := i) rfl hrl (by omega)
    have pl1 := fun a b => pre_load (h := [intR.row 3 (U ++ r), a, b]) (b := 0) (n := p.length) (sz := some 1) (e := U) rfl hrl hi
    have hcl : 2 * (colY p U[i]).length ≤ p.length := Rg.colY_len p U[i]
    have ih := ih (i + 1, o ++ emit ⟨U[i], U[i + 1], colY p U[i]⟩) (by show U.length - (i + 1) < U.length - i; omega) ⟨by show i + 1 ≤ U.length; omega, by
     show (o ++ emit ⟨U[i], U[i + 1], colY p U[i]⟩).length ≤ 100 * (i + 1)
     have e : (emit ⟨U[i], U[i + 1], colY p U[i]⟩).length = (colY p U[i]).length := List.length_map _
     rw [List.length_append, e]; omega⟩
    rw [strip_step hi, ← List.append_assoc]
    have ecol : colY p U[i] = pairs (sortI (ysP p U[i])) := rfl
    have eys : ysP p U[i] = ((sidesP p).filter (hB U[i])).map (fun s => s.1.2) := rfl
    have hev := hev U[i]
    have hyl := hyl U[i]
    have ee := Rg.ends_pairs hev
    rw [ecol] at ih ⊢
    generalize hx0 : U[i] = x0 at *
    generalize hx1 : U[i + 1] = x1 at *
    generalize outT (stripL (colY p) (U.drop (i + 1))) = F at *
    simp -implicitDefEqProofs [k19_14, -List.append_assoc] at ih
    simp -implicitDefEqProofs [r19_14, k19_14, pre_len, wl, hi, hi', prep_new, newK_nil s3, sln, -List.append_assoc]
    rw [LL_for (γ := List Int) (sidesP p) [] (fun j c => [(10, intR.sl 2 c), (43, .int .i64 j)]) (fun _ c => [intR.row 3 (U ++ r), rectR.row 84 o, intR.row 3 c])
     (fun _ rest c => (.exit 4, [(10, intR.sl 2 (c ++ (rest.filter (hB x0)).map (fun s => s.1.2))), (43, undef)], [intR.row 3 (U ++ r), rectR.row 84 o, intR.row 3 (c ++ (rest.filter (hB x0)).map (fun s => s.1.2))])) (fun j c => c.length ≤ j) (by omega) (Nat.le_refl _)]
    ·rw [List.nil_append, ← eys]
     have so2 := sortInts (h := [intR.row 3 (U ++ r), rectR.row 84 o, intR.row 3 (ysP p x0)]) (b := 2) (lo := 0) (d := ysP p x0) rfl (Nat.zero_le _) (by omega)
     have hLl : (sortI (ysP p x0)).length = (ysP p x0).length := sortI_len _
     have esl : intR.sl 2 (sortI (ysP p x0)) = intR.sl 2 (ysP p x0) := int_sl hLl
     generalize ysP p x0 = Y at *
     generalize sortI Y = Lq at *
     have hel := Rg.ends_len (pairs Lq)
     rw [ee] at hel
     have ixL := fun (j : Nat) (hj : j < Lq.length) => int_index (g := some false) (b := 2) (l := Lq) hj
     rw [esl] at ixL
     simp -implicitDefEqProofs [k19_18, ret2 (E := E) (f := 37) rfl, so2, -List.append_assoc]
     rw [LL_for (γ := List Rect) (pairs Lq) o (fun j o' => [(8, rectR.sl 1 o'), (13, .int .i64 ((2 * j : Nat) : Int))]) (fun _ o' => [intR.row 3 (U ++ r), rectR.row 84 o', intR.row 3 Lq])
      (fun _ rest o' => (.exit 6, [(8, rectR.sl 1 (o' ++ emit ⟨x0, x1, rest⟩)), (13, undef)], [intR.row 3 (U ++ r), rectR.row 84 (o' ++ emit ⟨x0, x1, rest⟩), intR.row 3 Lq])) (fun j o' => o'.length = o.length + j) (by omega) rfl]
     ·simp -implicitDefEqProofs [k19_25, wi, trim_cut, bP, bS, Rec.sl_bel, Rec.row_bel, pre_bel, -List.append_assoc, -Int.natCast_add]
      exact ih
     ·simp -implicitDefEqProofs [k19_25]
     ·rfl
     ·intro nx j o' hj _
      have w2 : IntKind.i64.wrap (((2 * j : Nat) : Int) + 1) = ((2 * j + 1 : Nat) : Int) := wrap64 (by omega) (by omega)
      have hjn : ¬ (((2 * j + 1 : Nat) : Int) < (Y.length : Int)) := by omega
      have hjn' : ¬ (2 * j + 1 < Y.length) := by omega
      have e0 : emit ⟨x0, x1, []⟩ = [] := rfl
      simp -implicitDefEqProofs [r19_25, k19_25, Rec.sl_len, w2, hjn, hjn', e0, trim_le, -Int.natCast_add, -Int.natCast_mul]
     ·intro nx j s rest o' hj hv hd hw ho ih
      obtain ⟨g1, g2, g3, g4⟩ := ends_at7 hj
      simp only [ee] at g1 g2 g3 g4
      rw [hv] at g3 g4
      have st := app_rect (h := [intR.row 3 (U ++ r), rectR.row 84 o', intR.row 3 Lq]) (b := 1) (lo := 0) (c := o') ⟨x0, s.1, x1, s.2⟩ rfl (Nat.zero_le _) (by omega)
      have w2 : IntKind.i64.wrap (((2 * j : Nat) : Int) + 1) = ((2 * j + 1 : Nat) : Int) := wrap64 (by omega) (by omega)
      have w3 : IntKind.i64.wrap (((2 * j : Nat) : Int) + 2) = ((2 * (j + 1) : Nat) : Int) := (wrap64 (by omega) (by omega)).trans (by omega)
      have hjn : ((2 * j + 1 : Nat) : Int) < (Y.length : Int) := by omega
      have hjn' : 2 * j + 1 < Y.length := by omega
      have ixa := ixL (2 * j) g1
      have ixb := ixL (2 * j + 1) g2
      have lda := int_load (h := [intR.row 3 (U ++ r), rectR.row 84 o', intR.row 3 Lq]) (b := 2) (l := Lq) (i := 2 * j) (sz := some 1) rfl g1
      have ldb := int_load (h := [intR.row 3 (U ++ r), rectR.row 84 o', intR.row 3 Lq]) (b := 2) (l := Lq) (i := 2 * j + 1) (sz := some 1) rfl g2
      rw [g3] at lda
      rw [g4] at ldb
      have ih := ih (o' ++ [⟨x0, s.1, x1, s.2⟩]) (by rw [List.length_append]; show o'.length + 1 = _; omega)
      rw [emit_cons7, ← List.append_assoc]
      simp -implicitDefEqProofs [k19_25, -List.append_assoc, -Int.natCast_add, -Int.natCast_mul] at ih
      simp -implicitDefEqProofs [r19_25, k19_25, Rec.sl_len, wi, w2, w3, hjn, hjn', px, pl, px1, pl1, ixa, ixb, lda, ldb, b4_all, lit_rect, st, trim_le, -List.append_assoc, -Int.natCast_add, -Int.natCast_mul]
      exact ih
    ·simp -implicitDefEqProofs [k19_18, Rec.sl_nil]
    ·rfl
    ·intro nx j c hj _
     simp -implicitDefEqProofs [r19_18, k19_18, hj, sln, hsl, trim_le]
    ·intro nx j s rest c hj hv hd hw hc ih
     have sj := six j hj
     rw [hv, side_val] at sj
     have us := up_spec s
     have hjp : j < p.length := by omega
     have ap := fun q => app_num (h := [intR.row 3 (U ++ r), rectR.row 84 o, intR.row 3 c, q]) (b := 2) (lo := 0) (c := c) s.1.2 rfl (Nat.zero_le _) (by omega)
     cases hu : upS s
     ·rw [hu] at us
      by_cases m1 : min s.1.1 s.2.1 ≤ x0
      ·by_cases m2 : x0 < max s.1.1 s.2.1
       ·have ih := ih (c ++ [s.1.2]) (by simp; omega)
        rw [List.filter_cons_of_pos (Rg.hB_iff.2 ⟨m1, m2⟩), List.map_cons, show c ++ s.1.2 :: (rest.filter (hB x0)).map (fun s => s.1.2) = c ++ [s.1.2] ++ (rest.filter (hB x0)).map (fun s => s.1.2) by rw [List.append_assoc]; rfl]
        simp -implicitDefEqProofs [k19_18, -List.append_assoc] at ih
        simp -implicitDefEqProofs [r19_18, k19_18, hj, hjp, sln, hsl, sj, ret0 m40, us, px, pl2, min_int, max_int, m1, m2, lit_num, ap, hw, trim_cut, bP, bS, Rec.sl_bel, Rec.row_bel, pre_bel, -List.append_assoc]
        exact ih
       ·have ih := ih c (by omega)
        rw [List.filter_cons_of_neg (by rw [Rg.hB_iff]; omega)]
        simp -implicitDefEqProofs [k19_18, -List.append_assoc] at ih
        simp -implicitDefEqProofs [r19_18, k19_18, hj, hjp, sln, hsl, sj, ret0 m40, us, px, pl2, min_int, max_int, m1, m2, hw, trim_cut, bP, bS, Rec.sl_bel, Rec.row_bel, pre_bel, -List.append_assoc]
        exact ih
      ·have ih := ih c (by omega)
       rw [List.filter_cons_of_neg (by rw [Rg.hB_iff]; omega)]
       simp -implicitDefEqProofs [k19_18, -List.append_assoc] at ih
       simp -implicitDefEqProofs [r19_18, k19_18, hj, hjp, sln, hsl, sj, ret0 m40, us, px, pl2, min_int, max_int, m1, hw, trim_cut, bP, bS, Rec.sl_bel, Rec.row_bel, pre_bel, -List.append_assoc]
       exact ih
     ·rw [hu] at us
      have ih := ih c (by omega)
      rw [List.filter_cons_of_neg (by rw [hB_up hu]; decide)]
      simp -implicitDefEqProofs [k19_18, -List.append_assoc] at ih
      simp -implicitDefEqProofs [r19_18, k19_18, hj, hjp, sln, hsl, sj, ret0 m40, us, px, pl2, min_int, max_int, hw, trim_cut, bP, bS, Rec.sl_bel, Rec.row_bel, pre_bel, -List.append_assoc]
      exact ih
   ·have hi' : ¬ ((i : Int) < (U.length : Int) - 1) := by omega
    rw [strip_end hi, List.append_nil]
    simp -implicitDefEqProofs [r19_14, k19_14, pre_len, wl, hi, hi', trim_le]
 ·simp -implicitDefEqProofs [k19_5, Rec.sl_nil]
 ·rfl
 ·intro nx i c hi _
  simp -implicitDefEqProofs [r19_5, k19_5, hi, ln, trim_le]
 ·intro nx i v rest c hi hv hd hw hc ih
  have pi := pix i hi
  rw [hv, span_val] at pi
  have ap := fun q => app_num (h := [intR.row 3 c, q]) (b := 0) (lo := 0) (c := c) v.1 rfl (Nat.le_refl _) (by omega)
  have ih := ih (c ++ [v.1]) (by simp; omega)
  have em : (v :: rest).map (·.1) = [v.1] ++ rest.map (·.1) := rfl
  rw [em, ← List.append_assoc]
  simp -implicitDefEqProofs [k19_5, -List.append_assoc] at ih
  simp -implicitDefEqProofs [r19_5, k19_5, hi, ln, pi, lit_num, ap, hw, trim_cut, bP, Rec.sl_bel, Rec.row_bel, -List.append_assoc]
  exact ih
end Go.Proofs.YtcclbpcifohhkaaGreat.Bm
namespace Go.Proofs.YtcclbpcifohhkaaGreat.Rg
def mult : List Rect → Int → Int → Int
 | [], _, _ => 0
 | r :: l, x, y => bi (r.has x y) + mult l x y
theorem mult_append : ∀ (l m : List Rect) (x y : Int), mult (l ++ m) x y = mult l x y + mult m x y
 | [], m, x, y => by show _ = 0 + _; rw [Int.zero_add]; rfl
 | r :: l, m, x, y => by
  show bi (r.has x y) + mult (l ++ m) x y = bi (r.has x y) + mult l x y + mult m x y
  rw [mult_append]; omega
theorem mult_col (x0 x1 x y : Int) : ∀ {c : List (Int × Int)} {b : Int}, canS b c → mult (c.map fun s => (⟨x0, s.1, x1, s.2⟩ : Rect)) x y = bi (decide (x0 ≤ x) && decide (x < x1) && hasS c y)
 | [], _, _ => by rw [hasS_nil, Bool.and_false]; rfl
 | (f, t) :: c, b, h => by
  have ih := mult_col x0 x1 x y h.2.2
  show bi (decide (x0 ≤ x) && decide (x < x1) && (decide (f ≤ y) && decide (y < t))) + mult (c.map _) x y = _
  rw [ih, hasS_cons]
  by_cases q : y ≤ t
  ·rw [canS_low h.2.2 q, Bool.and_false, Bool.or_false]
   show _ + 0 = _
   rw [Int.add_zero]
  ·rw [decide_eq_false (show ¬ y < t by omega), Bool.and_false, Bool.and_false, Bool.false_or]
   show 0 + _ = _
   rw [Int.zero_add]
theorem mult_out : ∀ {T : List Slab} {b : Int} {c : List (Int × Int)} (x y : Int), canT b c T → mult (outT T) x y = bi (cellT T x y)
 | [], _, _, _, _, _ => rfl
 | s :: T, b, c, x, y, h => by
  have ih := mult_out x y h.2.2.2.2.2
  have e0 : outT (s :: T) = emit s ++ outT T := rfl
  obtain ⟨b', hb'⟩ := Can.canS h.2.2.2.1
  rw [e0, mult_append, ih, cellT_cons, show mult (emit s) x y = _ from mult_col s.x0 s.x1 x y hb']
  by_cases q : x < s.x1
  ·rw [canT_low h.2.2.2.2.2 q, Bool.or_false]
   show _ + 0 = _
   rw [Int.add_zero]
  ·rw [decide_eq_false q, Bool.and_false, Bool.false_and, Bool.false_or]
   show 0 + _ = _
   rw [Int.zero_add]
def Once (l : List Rect) : Prop := ∀ x y, mult l x y = bi (cell l x y)
theorem Form.once {l : List Rect} (h : Form l) : Once l := by
 obtain ⟨b, T, h1, rfl⟩ := h
 intro x y
 rw [mult_out x y h1, cell_outT]
def capR (r s : Rect) : Rect := ⟨max r.x0 s.x0, max r.y0 s.y0, min r.x1 s.x1, min r.y1 s.y1⟩
def meetB (r s : Rect) : Bool := decide (max r.x0 s.x0 < min r.x1 s.x1) && decide (max r.y0 s.y0 < min r.y1 s.y1)
def capA (r s : Rect) : Int := if meetB r s then (capR r s).area else 0
theorem meet_iff {r s : Rect} : meetB r s = true ↔ max r.x0 s.x0 < min r.x1 s.x1 ∧ max r.y0 s.y0 < min r.y1 s.y1 := by
 unfold meetB; rw [Bool.and_eq_true, decide_eq_true_eq, decide_eq_true_eq]
theorem has_iff {r : Rect} {x y : Int} : r.has x y = true ↔ r.x0 ≤ x ∧ x < r.x1 ∧ r.y0 ≤ y ∧ y < r.y1 := by
 unfold Rect.has
 simp only [Bool.and_eq_true, decide_eq_true_eq]
 omega
theorem cap_has (r s : Rect) (x y : Int) : (capR r s).has x y = (r.has x y && s.has x y) := by
 rw [Bool.eq_iff_iff, Bool.and_eq_true, has_iff, has_iff, has_iff]
 unfold capR
 simp only
 omega
theorem cap_box {r s : Rect} {n : Int} (hr : r.inBox n) (hs : s.inBox n) (h : meetB r s = true) : (capR r s).inBox n := by
 rw [meet_iff] at h
 unfold Rect.inBox capR at *
 simp only
 omega
theorem cell_one (r : Rect) (x y : Int) : cell [r] x y = r.has x y := by
 show (r.has x y || false) = _
 rw [Bool.or_false]
theorem form_one {r : Rect} (h1 : r.x0 < r.x1) (h2 : r.y0 < r.y1) : Form [r] :=
 ⟨r.x0, [⟨r.x0, r.x1, [(r.y0, r.y1)]⟩], ⟨Int.le_refl _, h1, by simp, ⟨h2, trivial⟩, fun _ => by simp, trivial⟩, rfl⟩
theorem area_one {n : Nat} {r : Rect} (h : r.inBox n) : cnt n (fun x y => r.has x y) = r.area := by
 have := area_form (form_one (r := r) (by unfold Rect.inBox at h; omega) (by unfold Rect.inBox at h; omega)) (n := n) (by simpa using h)
 rw [cnt_congr (cell_one r)] at this
 rw [← this]
 show r.area + 0 = _
 omega
theorem cap_count {n : Nat} {r s : Rect} (hr : r.inBox n) (hs : s.inBox n) : cnt n (fun x y => r.has x y && s.has x y) = capA r s := by
 unfold capA
 cases h : meetB r s
 ·have e : ∀ x y, (r.has x y && s.has x y) = false := fun x y => by
   rw [Bool.eq_false_iff]
   intro q
   rw [Bool.and_eq_true, has_iff, has_iff] at q
   have : meetB r s = true := meet_iff.2 (by omega)
   rw [h] at this; exact absurd this (by decide)
  rw [cnt_congr e, cnt_none]; rfl
 ·rw [if_pos rfl, ← area_one (cap_box hr hs h)]
  exact cnt_congr fun x y => (cap_has r s x y).symm
def comR (r : Rect) : List Rect → Int
 | [] => 0
 | s :: l => capA r s + comR r l
def comA : List Rect → List Rect → Int
 | [], _ => 0
 | r :: a, b => comR r b + comA a b
def cntI (n : Nat) (f : Int → Int → Int) : Int := sumN n fun x => sumN n fun y => f x y
theorem cntI_bi (n : Nat) (S : Int → Int → Bool) : cntI n (fun x y => bi (S x y)) = cnt n S := rfl
theorem cntI_add {n : Nat} (f g : Int → Int → Int) : cntI n (fun x y => f x y + g x y) = cntI n f + cntI n g := by
 unfold cntI
 rw [← sumN_add]
 exact sumN_congr fun i _ => sumN_add
theorem cntI_congr {n : Nat} {f g : Int → Int → Int} (h : ∀ x y, f x y = g x y) : cntI n f = cntI n g :=
 sumN_congr fun i _ => sumN_congr fun j _ => h i j
theorem cntI_zero (n : Nat) : cntI n (fun _ _ => 0) = 0 := (cntI_bi n fun _ _ => false).trans cnt_none
theorem bi_and (a b : Bool) : bi (a && b) = bi a * bi b := by cases a <;> cases b <;> rfl
theorem com_row {n : Nat} {r : Rect} (hr : r.inBox n) : ∀ {b : List Rect}, (∀ s ∈ b, s.inBox n) → comR r b = cntI n fun x y => bi (r.has x y) * mult b x y
 | [], _ => by
  rw [cntI_congr (g := fun _ _ => 0) fun x y => by show bi _ * 0 = 0; rw [Int.mul_zero], cntI_zero]; rfl
 | s :: b, h => by
  have ih := com_row hr (b := b) fun t ht => h t (List.mem_cons_of_mem _ ht)
  show capA r s + comR r b = _
  rw [ih, ← cap_count hr (h s (List.mem_cons_self ..)), ← cntI_bi, ← cntI_add]
  refine cntI_congr fun x y => ?_
  show _ = bi (r.has x y) * (bi (s.has x y) + mult b x y)
  rw [bi_and, Int.mul_add]
theorem com_all {n : Nat} : ∀ {a b : List Rect}, (∀ r ∈ a, r.inBox n) → (∀ s ∈ b, s.inBox n) → comA a b = cntI n fun x y => mult a x y * mult b x y
 | [], b, _, _ => by
  rw [cntI_congr (g := fun _ _ => 0) fun x y => by show 0 * _ = 0; rw [Int.zero_mul], cntI_zero]; rfl
 | r :: a, b, h, hb => by
  have ih := com_all (a := a) (fun t ht => h t (List.mem_cons_of_mem _ ht)) hb
  show comR r b + comA a b = _
  rw [ih, com_row (h r (List.mem_cons_self ..)) hb, ← cntI_add]
  refine cntI_congr fun x y => ?_
  show _ = (bi (r.has x y) + mult a x y) * mult b x y
  rw [Int.add_mul]
theorem com_cells {n : Nat} {a b : List Rect} (ha : ∀ r ∈ a, r.inBox n) (hb : ∀ s ∈ b, s.inBox n) (oa : Once a) (ob : Once b) : comA a b = cnt n fun x y => cell a x y && cell b x y := by
 rw [com_all ha hb, ← cntI_bi]
 exact cntI_congr fun x y => by rw [oa x y, ob x y, bi_and]
theorem capA_nonneg {r s : Rect} : 0 ≤ capA r s := by
 unfold capA
 cases h : meetB r s
 ·exact Int.le_refl _
 ·rw [if_pos rfl]
  rw [meet_iff] at h
  unfold Rect.area capR
  exact Int.mul_nonneg (by simp only; omega) (by simp only; omega)
theorem comR_nonneg (r : Rect) : ∀ b : List Rect, 0 ≤ comR r b
 | [] => Int.le_refl _
 | s :: b => by
  have h1 := comR_nonneg r b
  have h2 : 0 ≤ capA r s := capA_nonneg
  show 0 ≤ capA r s + comR r b
  omega
theorem comA_nonneg : ∀ a b : List Rect, 0 ≤ comA a b
 | [], _ => Int.le_refl _
 | r :: a, b => by
  have h1 := comA_nonneg a b
  have h2 := comR_nonneg r b
  show 0 ≤ comR r b + comA a b
  omega
def leP (p q : Pt) : Prop := p.1 < q.1 ∨ (p.1 = q.1 ∧ p.2 ≤ q.2)
def corn (r s : Rect) : Pt := ((capR r s).x0, (capR r s).y0)
def stepP (r : Rect) (p : Pt) (s : Rect) : Pt := if meetB r s && ltP (corn r s) p then corn r s else p
def rowP (r : Rect) (p : Pt) (b : List Rect) : Pt := b.foldl (stepP r) p
def comP : List Rect → List Rect → Pt → Pt
 | [], _, p => p
 | r :: a, b, p => comP a b (rowP r p b)
structure Least (S : Int → Int → Bool) (p : Pt) : Prop where
 has : S p.1 p.2 = true
 le : ∀ x y, S x y = true → leP p (x, y)
end Go.Proofs.YtcclbpcifohhkaaGreat.Rg
