/-
  Chapter 07: the region of a polygon, walked. Conditions: lists that are not too long.
-/
import Derived.Test.YtimjfondgdhfcaaQA20
import Derived.Test.YtimjfondgdhfcaaQA21
namespace Go.Proofs.Ytimjfondgdhfcaa.Bm
open Go Go.RowKit
open Rg (Rect Pt sidesP upS crossB onB sd okI okJ crI crJ rightP allFr allFr_step allFr_end)

def sideR : Rec (Pt × Pt) where
  enc s := [.int .i64 s.1.1, .int .i64 s.1.2, .int .i64 s.2.1, .int .i64 s.2.2]
  m := 3
  len _ := rfl
  set _ := rfl
  bel _ _ := rfl
theorem side_val {s : Pt × Pt} : sideR.val s = .agg ⟨[.int .i64 s.1.1, .int .i64 s.1.2, .int .i64 s.2.1, .int .i64 s.2.2]⟩ := rfl
theorem sS : szOf E.P 77 = some 4 := by kernel_rfl
theorem aS : aggT E.P 77 = some true := by kernel_rfl

theorem min_int (a b : Int) : aMinMax false [.int .i64 a, .int .i64 b] = some (.int .i64 (min a b)) := by
  show some (Value.int .i64 (if b < a then b else a)) = _
  congr 2
  omega

/-! ### Points -/
theorem nan_spec (z : Int) : pureCall E.P (L E) 76 [.int .i64 z] = some (.bool false) := by
  rw [pureCall_fn F76 rfl]
  simp -implicitDefEqProofs [r76, padS]
def cmpI (a b : Int) : Int := if a < b then -1 else if b < a then 1 else 0
theorem cmp_spec (a b : Int) : pureCall E.P (L E) 54 [.int .i64 a, .int .i64 b] = some (.int .i64 (cmpI a b)) := by
  have n1 := nan_spec a
  have n2 := nan_spec b
  rw [pureCall_fn F54 rfl]
  unfold cmpI
  by_cases h1 : a < b
  · simp -implicitDefEqProofs [r54, padS, ret0 m76, n1, n2, h1]
  by_cases h2 : b < a
  · simp -implicitDefEqProofs [r54, padS, ret0 m76, n1, n2, h1, h2]
  simp -implicitDefEqProofs [r54, padS, ret0 m76, n1, n2, h1, h2]
def orL : List Int → Int
  | [] => 0
  | z :: l => if z = 0 then orL l else z
theorem cor_spec (l : List Int) (hl : l.length ≤ 1000) : pureCall E.P (L E) 53 [lst true (l.map (.int .i64))] = some (.int .i64 (orL l)) := by
  have ix : ∀ (i : Nat) (hi : i < l.length), indexAddrT (.sl 3 ⟨some false, some 1⟩) (lst true (l.map (.int .i64))) (.int .i64 (i : Int)) = some (cptr (.int .i64 l[i])) := fun i hi => by
    have e : (l.map (Value.int .i64))[i]? = some (.int .i64 l[i]) := by simp [hi]
    rw [index_lst, if_pos (by omega), show ((i : Int)).toNat = i by omega, e, Option.bind_some, if_pos (by rfl)]
  have ln : ∀ h, lenT .sl h (lst true (l.map (.int .i64))) = some (.int .i64 l.length) := fun h => by rw [len_lst]; simp
  rw [pureCall_fn F53 rfl]
  simp -implicitDefEqProofs [r53, p53, ln]
  rw [LL_for (γ := Unit) l () (fun i _ => [(8, .int .i64 i)]) (fun _ _ => []) (fun _ rest _ => if orL rest = 0 then (.exit 0, [(8, undef)], []) else (.ret, [(2, .int .i64 (orL rest)), (8, undef)], [])) (fun _ _ => True) (by omega) trivial]
  · by_cases h : orL l = 0
    · simp -implicitDefEqProofs [k53_3, h]
    · simp -implicitDefEqProofs [k53_3, h]
  · simp -implicitDefEqProofs [k53_3]
  · rfl
  · intro nx i c hi _
    simp -implicitDefEqProofs [r53_3, k53_3, hi, ln, trim_le, orL]
  · intro nx i z rest c hi hv hd hw _ ih
    have ih := ih () trivial
    have ixi := ix i hi
    rw [hv] at ixi
    have eo : orL (z :: rest) = if z = 0 then orL rest else z := rfl
    rw [eo]
    simp -implicitDefEqProofs [k53_3] at ih
    by_cases hz : z = 0
    · subst hz
      simp -implicitDefEqProofs [r53_3, k53_3, hi, ln, ixi, hw, trim_le]
      exact ih
    · simp -implicitDefEqProofs [r53_3, k53_3, hi, ln, ixi, hz, trim_le]
def cmpP (a b : Pt) : Int := orL [cmpI a.1 b.1, cmpI a.2 b.2]
theorem cmpP_lt (a b : Pt) : cmpP a b < 0 ↔ Rg.ltP a b = true := by
  unfold cmpP orL orL orL cmpI Rg.ltP
  simp only [Bool.or_eq_true, Bool.and_eq_true, decide_eq_true_eq]
  split <;> (repeat' split) <;> omega
theorem lit_ints2 (h : Heap) (a b : Int) : buildSliceT (some ⟨3, 1, 8, .int .i64 0, ⟨some false, some 1⟩⟩) false h 2 #[(0, .int .i64 a), (1, .int .i64 b)] = some (lst true [.int .i64 a, .int .i64 b], h) :=
  (build_lit' (n := 2) (l := [(0, .int .i64 a), (1, .int .i64 b)]) rfl rfl (by decide) (by decide) (by decide)).trans rfl
theorem compare_spec (a b : Pt) : pureCall E.P (L E) 64 [.agg ⟨[.int .i64 a.1, .int .i64 a.2]⟩, .agg ⟨[.int .i64 b.1, .int .i64 b.2]⟩] = some (.int .i64 (cmpP a b)) := by
  have c1 := cmp_spec a.1 b.1
  have c2 := cmp_spec a.2 b.2
  have c3 := cor_spec [cmpI a.1 b.1, cmpI a.2 b.2] (by show 2 ≤ 1000; omega)
  have rf : ∀ h (u v : Int), reify E.P 8 h (lst true [.int .i64 u, .int .i64 v]) = some (lst true [.int .i64 u, .int .i64 v]) := fun _ _ _ => rfl
  simp only [List.map_cons, List.map_nil] at c3
  rw [pureCall_fn F64 rfl]
  unfold cmpP
  simp -implicitDefEqProofs [r64, padS, ret0 m54, c1, c2, lit_ints2, ret0 m53, rf, c3]
theorem grid_spec (a : Pt) : pureCall E.P (L E) 63 [.agg ⟨[.int .i64 a.1, .int .i64 a.2]⟩] = some (.bool (onB a)) := by
  unfold onB
  rw [pureCall_fn F63 rfl]
  by_cases h1 : 0 ≤ a.1
  case neg => simp -implicitDefEqProofs [r63, padS, h1]
  by_cases h2 : a.1 ≤ 1048576
  case neg => simp -implicitDefEqProofs [r63, padS, h1, h2]
  by_cases h3 : 0 ≤ a.2
  case neg => simp -implicitDefEqProofs [r63, padS, h1, h2, h3]
  simp -implicitDefEqProofs [r63, padS, h1, h2, h3]

/-! ### Sides -/
theorem up_spec (s : Pt × Pt) : pureCall E.P (L E) 42 [.agg ⟨[.int .i64 s.1.1, .int .i64 s.1.2, .int .i64 s.2.1, .int .i64 s.2.2]⟩] = some (.bool (upS s)) := by
  unfold upS
  rw [pureCall_fn F42 rfl]
  by_cases h : s.1.1 = s.2.1 <;> simp -implicitDefEqProofs [r42, padS, h]
theorem crosses_spec (s t : Pt × Pt) : pureCall E.P (L E) 65 [.agg ⟨[.int .i64 s.1.1, .int .i64 s.1.2, .int .i64 s.2.1, .int .i64 s.2.2]⟩, .agg ⟨[.int .i64 t.1.1, .int .i64 t.1.2, .int .i64 t.2.1, .int .i64 t.2.2]⟩] = some (.bool (crossB s t)) := by
  unfold crossB
  rw [pureCall_fn F65 rfl]
  by_cases h : max (min s.1.1 s.2.1) (min t.1.1 t.2.1) ≤ min (max s.1.1 s.2.1) (max t.1.1 t.2.1)
  · simp -implicitDefEqProofs [r65, p65, min_int, max_int, h]
  · simp -implicitDefEqProofs [r65, p65, min_int, max_int, h]
theorem b22 (a b c d : Int) : buildT (Bl.fs ⟨[.int .i64 0, .int .i64 0, .int .i64 0, .int .i64 0]⟩ ⟨[(0, 2), (2, 2)]⟩) #[(0, .agg ⟨[.int .i64 a, .int .i64 b]⟩), (1, .agg ⟨[.int .i64 c, .int .i64 d]⟩)] = some (.agg ⟨[.int .i64 a, .int .i64 b, .int .i64 c, .int .i64 d]⟩) := rfl
def zeroS : Pt × Pt := ((0, 0), (0, 0))
theorem make_sides (h : Heap) (n : Nat) (hn : n ≤ 1000000) : makeSliceT (some ⟨77, 4, 32, .agg ⟨[.int .i64 0, .int .i64 0, .int .i64 0, .int .i64 0]⟩, ⟨some true, some 4⟩⟩) h (.int .i64 (n : Int)) (.int .i64 (n : Int)) = some (sideR.msl h.length (List.replicate n zeroS), h ++ [sideR.mrow 77 (List.replicate n zeroS)]) :=
  Rec.make_rec (R := sideR) (a := zeroS) rfl rfl hn (by decide)
/-- The sides as far as they are made. -/
def part (p : List Pt) (i : Nat) : List (Pt × Pt) := (sidesP p).take i ++ List.replicate (p.length - i) zeroS
theorem part_len {p : List Pt} {i : Nat} (h : i ≤ p.length) : (part p i).length = p.length := by
  unfold part
  rw [List.length_append, List.length_take, Rg.sides_len, List.length_replicate]; omega
theorem part_set {p : List Pt} {i : Nat} (h : i < p.length) : (part p i).set i ((sidesP p)[i]'(by rw [Rg.sides_len]; exact h)) = part p (i + 1) := by
  have hs : i < (sidesP p).length := by rw [Rg.sides_len]; exact h
  have ht : ((sidesP p).take i).length = i := by rw [List.length_take]; omega
  unfold part
  rw [List.set_append_right _ _ (by omega), ht, Nat.sub_self, show p.length - i = (p.length - (i + 1)) + 1 by omega, List.replicate_succ, List.set_cons_zero, List.take_succ_eq_append_getElem hs, List.append_assoc]; rfl
theorem around_spec (x : Bool) (p : List Pt) (hp : p.length ≤ 1000) : pureCall E.P (L E) 41 [lst x (spanR.vals p)] = some (lst false (sideR.vals (sidesP p))) := by
  have ln : ∀ h, lenT .sl h (lst x (spanR.vals p)) = some (.int .i64 p.length) := fun h => Rec.tree_len
  have ix : ∀ (i : Nat) (hi : i < p.length), indexAddrT (.sl 36 ⟨some true, some 2⟩) (lst x (spanR.vals p)) (.int .i64 (i : Int)) = some (cptr (spanR.val p[i])) := fun i hi => Rec.index_tree rfl hi
  have mk := fun h => make_sides h p.length (by omega)
  rw [pureCall_fn F41 rfl]
  simp -implicitDefEqProofs [r41, p41, ln, mk]
  rw [LL_rec (α := Nat) 0 (fun i => [(10, .int .i64 (i : Int))]) (fun i => [sideR.mrow 77 (part p i)]) (fun _ => (.exit 0, [(10, undef)], [sideR.mrow 77 (sidesP p)])) (fun i => i ≤ p.length) (fun i => p.length - i)]
  · have rr := Rec.mreify (R := sideR) (P := E.P) (n := 7) (h := [sideR.mrow 77 (sidesP p)]) (b := 0) (t := 77) (l := sidesP p) rfl sS aS
    rw [Rec.msl_eq (d := List.replicate p.length zeroS) (by rw [Rg.sides_len, List.length_replicate])] at rr
    have rr' : reifyR E.P [sideR.mrow 77 (sidesP p)] (sideR.msl 0 (List.replicate p.length zeroS)) = some (lst false (sideR.vals (sidesP p))) := rr
    simp -implicitDefEqProofs [k41_3, rr']
  · exact Nat.zero_le _
  · simp -implicitDefEqProofs [k41_3]
  · rfl
  · intro nx i hi ih
    by_cases h : i < p.length
    · have h' : (i : Int) < (p.length : Int) := by omega
      have hm : (i + 1) % p.length < p.length := Nat.mod_lt _ (by omega)
      have i0 := ix i h
      have i1 := ix _ hm
      rw [span_val] at i0 i1
      have ih := ih (i + 1) (by omega) (by omega)
      have wi : IntKind.i64.wrap ((i : Int) + 1) = ((i + 1 : Nat) : Int) := (wrap64 (by omega) (by omega)).trans (by omega)
      have rm := rem_nat (P := E.P) (t := 3) (m := i + 1) (n := p.length) (by omega)
      have st := Rec.mstore (R := sideR) (n := 4) (h := [sideR.mrow 77 (part p i)]) (b := 0) (lo := 0) (t := 77) (l := part p i) (i := i) (a := (sidesP p)[i]'(by rw [Rg.sides_len]; exact h)) rfl rfl (Nat.le_refl _) (by rw [part_len hi]; exact h)
      rw [part_set h, Rg.sides_get h, side_val] at st
      have mi := Rec.mindex (R := sideR) (h0 := 4) (t := 77) (g := some true) (b := 0) (l := List.replicate p.length zeroS) (i := i) (k := .i64) rfl (by rw [List.length_replicate]; exact h)
      generalize p[(i + 1) % p.length] = b at i1 st
      clear hm
      generalize (i + 1) % p.length = j at i1 rm
      simp -implicitDefEqProofs [k41_3] at ih
      simp -implicitDefEqProofs [r41_3, k41_3, ln, h, h', i0, i1, wi, rm, b22, mi, st, trim_le, -Int.natCast_add]
      exact ih
    · have e : i = p.length := by omega
      subst e
      have ep : part p p.length = sidesP p := by
        unfold part
        rw [Nat.sub_self, List.replicate_zero, List.append_nil, List.take_of_length_le (by rw [Rg.sides_len]; exact Nat.le_refl _)]
      rw [ep]
      simp -implicitDefEqProofs [r41_3, k41_3, ln, trim_le]
end Go.Proofs.Ytimjfondgdhfcaa.Bm

namespace Go.Proofs.Ytimjfondgdhfcaa.Bm
open Go Go.RowKit
open Rg (Rect Pt sidesP upS crossB onB sd okI okJ crI crJ rightP allFr allFr_step allFr_end)

theorem ub7 : E.P.underlying 4 = some .bool := by kernel_rfl
theorem beq (p q : Bool) : aBin E.P .eql 4 (.bool p) (.bool q) = some (.bool (p == q)) := bin_eql_bool ub7
theorem bne (p q : Bool) : aBin E.P .neq 4 (.bool p) (.bool q) = some (.bool (p != q)) := bin_neq_bool ub7
theorem side_index (p : List Pt) (j : Nat) (hj : j < p.length) : indexAddrT (.sl 77 ⟨some true, some 4⟩) (lst false (sideR.vals (sidesP p))) (.int .i64 (j : Int)) = some (cptr (sideR.val (sd p j))) := by
  have hs : j < (sidesP p).length := by rw [Rg.sides_len]; exact hj
  rw [Rg.sd_get hs]
  exact Rec.index_tree rfl hs
theorem sides_lenT (p : List Pt) (h : Heap) : lenT .sl h (lst false (sideR.vals (sidesP p))) = some (.int .i64 p.length) := by
  rw [Rec.tree_len, Rg.sides_len]
theorem pt_index (x : Bool) (p : List Pt) (j : Nat) (hj : j < p.length) : indexAddrT (.sl 36 ⟨some true, some 2⟩) (lst x (spanR.vals p)) (.int .i64 (j : Int)) = some (cptr (spanR.val (p.getD j (0, 0)))) := by
  have e : p.getD j (0, 0) = p[j] := by rw [List.getD_eq_getElem?_getD, List.getElem?_eq_getElem hj]; rfl
  rw [e]
  exact Rec.index_tree rfl hj
set_option maxHeartbeats 2000000 in
theorem pright_spec (x : Bool) (p : List Pt) (hp : p.length ≤ 1000000) : pureCall E.P (L E) 38 [lst x (spanR.vals p)] = some (.bool (rightP p)) := by
  have ln : ∀ h, lenT .sl h (lst x (spanR.vals p)) = some (.int .i64 p.length) := fun h => Rec.tree_len
  rw [pureCall_fn F38 rfl]
  by_cases h4 : p.length < 4
  · have h4' : (p.length : Int) < 4 := by omega
    have e : rightP p = false := by unfold rightP; rw [decide_eq_false (by omega)]; rfl
    rw [e]
    simp -implicitDefEqProofs [r38, p38, ln, h4, h4']
  by_cases h60 : 60 < p.length
  · have h60' : 60 < (p.length : Int) := by omega
    have h4' : ¬ ((p.length : Int) < 4) := by omega
    have e : rightP p = false := by unfold rightP; rw [decide_eq_false (show ¬ (p.length ≤ 60) by omega), Bool.and_false]; rfl
    rw [e]
    simp -implicitDefEqProofs [r38, p38, ln, h4, h4', h60, h60']
  have h4' : ¬ ((p.length : Int) < 4) := by omega
  have h60' : ¬ (60 < (p.length : Int)) := by omega
  have ar := around_spec x p (by omega)
  have sln := sides_lenT p
  have six := side_index p
  have pix := pt_index x p
  have hE : rightP p = (allFr (okI p) 0 p.length && (allFr (crI p) 0 p.length && !upS (sd p 0))) := by
    unfold rightP
    rw [decide_eq_true (show 4 ≤ p.length by omega), decide_eq_true (show p.length ≤ 60 by omega), Bool.true_and, Bool.true_and, Bool.and_assoc]
  rw [hE]
  clear hE
  generalize hSV : lst false (sideR.vals (sidesP p)) = SV at *
  generalize hPV : lst x (spanR.vals p) = PV at *
  have sv0 : settled depth PV = true := by rw [← hPV]; rfl
  simp -implicitDefEqProofs [r38, p38, ln, h4, h4', h60, h60', ret1 m41, sv0, ar, sln]
  rw [LL_rec (α := Nat) 0 (fun i => [(21, .int .i64 (i : Int))]) (fun _ => []) (fun i => if allFr (okI p) i (p.length - i) then (.exit 0, [(21, undef)], []) else (.ret, [(2, .bool false), (21, undef)], [])) (fun i => i ≤ p.length) (fun i => p.length - i)]
  · rw [Nat.sub_zero]
    cases hok : allFr (okI p) 0 p.length
    · simp -implicitDefEqProofs [k38_5, sln]
    simp -implicitDefEqProofs [k38_5, sln]
    rw [LL_rec (α := Nat) 0 (fun i => [(78, .int .i64 (i : Int))]) (fun _ => []) (fun i => if allFr (crI p) i (p.length - i) then (.exit 2, [(78, undef)], []) else (.ret, [(2, .bool false), (78, undef)], [])) (fun i => i ≤ p.length) (fun i => p.length - i)]
    · rw [Nat.sub_zero]
      have i0 := six 0 (by omega)
      rw [side_val] at i0
      have u0 := up_spec (sd p 0)
      generalize upS (sd p 0) = u at *
      cases hcr : allFr (crI p) 0 p.length
      · simp -implicitDefEqProofs [k38_14]
      · have i0' : indexAddrT (.sl 77 ⟨some true, some 4⟩) SV (.int .i64 0) = _ := i0
        simp -implicitDefEqProofs [k38_14, i0', ret0 m42, u0]
    · exact Nat.zero_le _
    · simp -implicitDefEqProofs [k38_14]
    · rfl
    · intro nx i hi ih
      by_cases h : i < p.length
      · have h' : (i : Int) < (p.length : Int) := by omega
        have ih := ih (i + 1) (by omega) (by omega)
        have wi : IntKind.i64.wrap ((i : Int) + 1) = (i : Int) + 1 := wrap64 (by omega) (by omega)
        have wi2 : IntKind.i64.wrap ((i : Int) + 2) = ((i + 2 : Nat) : Int) := (wrap64 (by omega) (by omega)).trans (by omega)
        have ii := six i h
        rw [side_val] at ii
        rw [allFr_step h]
        generalize hq : allFr (crI p) (i + 1) (p.length - (i + 1)) = q at ih ⊢
        have ecr : crI p i = allFr (crJ p i) (i + 2) (p.length - (i + 2)) := rfl
        rw [ecr]
        simp -implicitDefEqProofs [k38_14] at ih
        simp -implicitDefEqProofs [r38_14, k38_14, h, h', sln, wi2, -Int.natCast_add]
        rw [LL_rec (α := Nat) (i + 2) (fun k => [(8, .int .i64 (k : Int))]) (fun _ => []) (fun k => if allFr (crJ p i) k (p.length - k) then (.exit 4, [(8, undef)], []) else (.ret, [(2, .bool false), (8, undef)], [])) (fun k => i + 2 ≤ k) (fun k => p.length - k)]
        · cases allFr (crJ p i) (i + 2) (p.length - (i + 2))
          · simp -implicitDefEqProofs [k38_17, trim_le]
          · simp -implicitDefEqProofs [k38_17, wi, trim_le]
            exact ih
        · exact Nat.le_refl _
        · simp -implicitDefEqProofs [k38_17]
        · rfl
        · intro nx k hk ih
          by_cases hkn : k < p.length
          · have hkn' : (k : Int) < (p.length : Int) := by omega
            have ih := ih (k + 1) (by omega) (by omega)
            have wk : IntKind.i64.wrap ((k : Int) + 1) = (k : Int) + 1 := wrap64 (by omega) (by omega)
            have w1 : IntKind.i64.wrap ((i : Int) + (p.length : Int)) = (i : Int) + (p.length : Int) := wrap64 (by omega) (by omega)
            have w2 : IntKind.i64.wrap ((i : Int) + (p.length : Int) - (k : Int)) = (i : Int) + (p.length : Int) - (k : Int) := wrap64 (by omega) (by omega)
            have ik := six k hkn
            rw [side_val] at ik
            have cs := crosses_spec (sd p i) (sd p k)
            rw [allFr_step hkn]
            have ecj : crJ p i k = !(decide (1 < i + p.length - k) && crossB (sd p i) (sd p k)) := rfl
            rw [ecj]
            generalize crossB (sd p i) (sd p k) = cb at *
            generalize allFr (crJ p i) (k + 1) (p.length - (k + 1)) = qk at ih ⊢
            simp -implicitDefEqProofs [k38_17] at ih
            by_cases h1 : 1 < i + p.length - k
            · have h1' : 1 < (i : Int) + (p.length : Int) - (k : Int) := by omega
              cases cb
              · simp -implicitDefEqProofs [r38_17, k38_17, hkn, hkn', sln, w1, w2, h1, h1', ii, ik, ret0 m65, cs, wk, trim_le]
                exact ih
              · simp -implicitDefEqProofs [r38_17, k38_17, hkn, hkn', sln, w1, w2, h1, h1', ii, ik, ret0 m65, cs, wk, trim_le]
            · have h1' : ¬ (1 < (i : Int) + (p.length : Int) - (k : Int)) := by omega
              simp -implicitDefEqProofs [r38_17, k38_17, hkn, hkn', sln, w1, w2, h1, h1', ii, ik, wk, trim_le]
              exact ih
          · have hkn' : ¬ ((k : Int) < (p.length : Int)) := by omega
            rw [allFr_end (by omega)]
            simp -implicitDefEqProofs [r38_17, k38_17, hkn, hkn', sln, trim_le]
      · have h' : ¬ ((i : Int) < (p.length : Int)) := by omega
        rw [allFr_end (by omega)]
        simp -implicitDefEqProofs [r38_14, k38_14, h, h', sln, trim_le]
  · exact Nat.zero_le _
  · simp -implicitDefEqProofs [k38_5, sln]
  · rfl
  · intro nx i hi ih
    by_cases h : i < p.length
    · have h' : (i : Int) < (p.length : Int) := by omega
      have ih := ih (i + 1) (by omega) (by omega)
      have hm : (i + 1) % p.length < p.length := Nat.mod_lt _ (by omega)
      have wi : IntKind.i64.wrap ((i : Int) + 1) = ((i + 1 : Nat) : Int) := (wrap64 (by omega) (by omega)).trans (by omega)
      have rm := rem_nat (P := E.P) (t := 3) (m := i + 1) (n := p.length) (by omega)
      have ii := six i h
      have im := six _ hm
      have p0 := pix 0 (by omega)
      have p0' : indexAddrT (.sl 36 ⟨some true, some 2⟩) PV (.int .i64 0) = _ := p0
      have pI := pix i h
      rw [side_val] at ii im
      rw [span_val] at p0' pI
      have gs := grid_spec (sd p i).1
      have us := up_spec (sd p i)
      have un := up_spec (sd p ((i + 1) % p.length))
      have cp := compare_spec (p.getD 0 (0, 0)) (p.getD i (0, 0))
      have lt := cmpP_lt (p.getD 0 (0, 0)) (p.getD i (0, 0))
      rw [allFr_step h]
      have eok : okI p i = (onB (sd p i).1 && ((decide ((sd p i).1.1 = (sd p i).2.1) != decide ((sd p i).1.2 = (sd p i).2.2)) && (upS (sd p i) != upS (sd p ((i + 1) % p.length))) && (decide (i = 0) || Rg.ltP (p.getD 0 (0, 0)) (p.getD i (0, 0))))) := rfl
      rw [eok]
      clear p0 eok
      generalize hj : (i + 1) % p.length = j at *
      generalize p.getD 0 (0, 0) = a0 at *
      generalize p.getD i (0, 0) = ai at *
      generalize sd p i = s at *
      generalize sd p j = t at *
      obtain ⟨⟨sa, sb⟩, sc, se⟩ := s
      obtain ⟨⟨ta, tb⟩, tc, te⟩ := t
      generalize allFr (okI p) (i + 1) (p.length - (i + 1)) = qk at ih ⊢
      generalize cmpP a0 ai = cv at *
      generalize Rg.ltP a0 ai = lv at *
      generalize upS ((sa, sb), sc, se) = u1 at *
      generalize upS ((ta, tb), tc, te) = u2 at *
      simp only at ii im gs us un ⊢
      generalize onB (sa, sb) = g at *
      simp -implicitDefEqProofs [k38_5] at ih
      have bP : ∀ d n, below (d + 1) n PV = true := fun d n => by rw [← hPV]; rfl
      have bS : ∀ d n, below (d + 1) n SV = true := fun d n => by rw [← hSV]; rfl
      cases g
      · simp -implicitDefEqProofs [r38_5, k38_5, h, h', sln, ii, im, wi, rm, ret0 m63, gs, bP, bS, trim_cut, -Int.natCast_add]
      by_cases q1 : sa = sc
      · subst q1
        by_cases q2 : sb = se
        · subst q2
          simp -implicitDefEqProofs [r38_5, k38_5, h, h', sln, ii, im, wi, rm, ret0 m63, gs, beq, ret0 m42, us, un, bP, bS, trim_cut, -Int.natCast_add]
        · cases u1 <;> cases u2
          · simp -implicitDefEqProofs [r38_5, k38_5, h, h', sln, ii, im, wi, rm, ret0 m63, gs, beq, ret0 m42, us, un, q2, bP, bS, trim_cut, -Int.natCast_add]
          · by_cases i0 : i = 0
            · rw [decide_eq_true i0]
              have ip : ¬ (0 < (i : Int)) := by omega
              have ipn : ¬ (0 < i) := by omega
              simp -implicitDefEqProofs [r38_5, k38_5, h, h', sln, ii, im, wi, rm, ret0 m63, gs, beq, ret0 m42, us, un, q2, ip, ipn, bP, bS, trim_cut, -Int.natCast_add]
              exact ih
            · rw [decide_eq_false i0]
              have ip : 0 < (i : Int) := by omega
              have ipn : 0 < i := by omega
              cases lv
              · have c0 : 0 ≤ cv := by by_cases z : cv < 0; exact absurd (lt.1 z) (by decide); omega
                simp -implicitDefEqProofs [r38_5, k38_5, h, h', sln, ii, im, wi, rm, ret0 m63, gs, beq, ret0 m42, us, un, q2, ip, ipn, p0', pI, ret0 m64, cp, c0, bP, bS, trim_cut, -Int.natCast_add]
              · have c0 : ¬ (0 ≤ cv) := by have := lt.2 rfl; omega
                simp -implicitDefEqProofs [r38_5, k38_5, h, h', sln, ii, im, wi, rm, ret0 m63, gs, beq, ret0 m42, us, un, q2, ip, ipn, p0', pI, ret0 m64, cp, c0, bP, bS, trim_cut, -Int.natCast_add]
                exact ih
          · by_cases i0 : i = 0
            · rw [decide_eq_true i0]
              have ip : ¬ (0 < (i : Int)) := by omega
              have ipn : ¬ (0 < i) := by omega
              simp -implicitDefEqProofs [r38_5, k38_5, h, h', sln, ii, im, wi, rm, ret0 m63, gs, beq, ret0 m42, us, un, q2, ip, ipn, bP, bS, trim_cut, -Int.natCast_add]
              exact ih
            · rw [decide_eq_false i0]
              have ip : 0 < (i : Int) := by omega
              have ipn : 0 < i := by omega
              cases lv
              · have c0 : 0 ≤ cv := by by_cases z : cv < 0; exact absurd (lt.1 z) (by decide); omega
                simp -implicitDefEqProofs [r38_5, k38_5, h, h', sln, ii, im, wi, rm, ret0 m63, gs, beq, ret0 m42, us, un, q2, ip, ipn, p0', pI, ret0 m64, cp, c0, bP, bS, trim_cut, -Int.natCast_add]
              · have c0 : ¬ (0 ≤ cv) := by have := lt.2 rfl; omega
                simp -implicitDefEqProofs [r38_5, k38_5, h, h', sln, ii, im, wi, rm, ret0 m63, gs, beq, ret0 m42, us, un, q2, ip, ipn, p0', pI, ret0 m64, cp, c0, bP, bS, trim_cut, -Int.natCast_add]
                exact ih
          · simp -implicitDefEqProofs [r38_5, k38_5, h, h', sln, ii, im, wi, rm, ret0 m63, gs, beq, ret0 m42, us, un, q2, bP, bS, trim_cut, -Int.natCast_add]
      · by_cases q2 : sb = se
        · subst q2
          cases u1 <;> cases u2
          · simp -implicitDefEqProofs [r38_5, k38_5, h, h', sln, ii, im, wi, rm, ret0 m63, gs, beq, ret0 m42, us, un, q1, bP, bS, trim_cut, -Int.natCast_add]
          · by_cases i0 : i = 0
            · rw [decide_eq_true i0]
              have ip : ¬ (0 < (i : Int)) := by omega
              have ipn : ¬ (0 < i) := by omega
              simp -implicitDefEqProofs [r38_5, k38_5, h, h', sln, ii, im, wi, rm, ret0 m63, gs, beq, ret0 m42, us, un, q1, ip, ipn, bP, bS, trim_cut, -Int.natCast_add]
              exact ih
            · rw [decide_eq_false i0]
              have ip : 0 < (i : Int) := by omega
              have ipn : 0 < i := by omega
              cases lv
              · have c0 : 0 ≤ cv := by by_cases z : cv < 0; exact absurd (lt.1 z) (by decide); omega
                simp -implicitDefEqProofs [r38_5, k38_5, h, h', sln, ii, im, wi, rm, ret0 m63, gs, beq, ret0 m42, us, un, q1, ip, ipn, p0', pI, ret0 m64, cp, c0, bP, bS, trim_cut, -Int.natCast_add]
              · have c0 : ¬ (0 ≤ cv) := by have := lt.2 rfl; omega
                simp -implicitDefEqProofs [r38_5, k38_5, h, h', sln, ii, im, wi, rm, ret0 m63, gs, beq, ret0 m42, us, un, q1, ip, ipn, p0', pI, ret0 m64, cp, c0, bP, bS, trim_cut, -Int.natCast_add]
                exact ih
          · by_cases i0 : i = 0
            · rw [decide_eq_true i0]
              have ip : ¬ (0 < (i : Int)) := by omega
              have ipn : ¬ (0 < i) := by omega
              simp -implicitDefEqProofs [r38_5, k38_5, h, h', sln, ii, im, wi, rm, ret0 m63, gs, beq, ret0 m42, us, un, q1, ip, ipn, bP, bS, trim_cut, -Int.natCast_add]
              exact ih
            · rw [decide_eq_false i0]
              have ip : 0 < (i : Int) := by omega
              have ipn : 0 < i := by omega
              cases lv
              · have c0 : 0 ≤ cv := by by_cases z : cv < 0; exact absurd (lt.1 z) (by decide); omega
                simp -implicitDefEqProofs [r38_5, k38_5, h, h', sln, ii, im, wi, rm, ret0 m63, gs, beq, ret0 m42, us, un, q1, ip, ipn, p0', pI, ret0 m64, cp, c0, bP, bS, trim_cut, -Int.natCast_add]
              · have c0 : ¬ (0 ≤ cv) := by have := lt.2 rfl; omega
                simp -implicitDefEqProofs [r38_5, k38_5, h, h', sln, ii, im, wi, rm, ret0 m63, gs, beq, ret0 m42, us, un, q1, ip, ipn, p0', pI, ret0 m64, cp, c0, bP, bS, trim_cut, -Int.natCast_add]
                exact ih
          · simp -implicitDefEqProofs [r38_5, k38_5, h, h', sln, ii, im, wi, rm, ret0 m63, gs, beq, ret0 m42, us, un, q1, bP, bS, trim_cut, -Int.natCast_add]
        · simp -implicitDefEqProofs [r38_5, k38_5, h, h', sln, ii, im, wi, rm, ret0 m63, gs, beq, ret0 m42, us, un, q1, q2, bP, bS, trim_cut, -Int.natCast_add]
    · have h' : ¬ ((i : Int) < (p.length : Int)) := by omega
      rw [allFr_end (by omega)]
      simp -implicitDefEqProofs [r38_5, k38_5, h, h', sln, trim_le]
end Go.Proofs.Ytimjfondgdhfcaa.Bm

namespace Go.Proofs.Ytimjfondgdhfcaa.Bm
open Go Go.RowKit
open Rg (Rect scan scan_le putAt insN sortU edgesX)

/-! ### Lists of numbers that do not change, and rows of numbers -/
def iT (l : List Int) : Value := lst false (l.map (.int .i64))
theorem iT_len {h : Heap} {l : List Int} : lenT .sl h (iT l) = some (.int .i64 l.length) := by unfold iT; rw [len_lst]; simp
theorem iT_index {l : List Int} {i : Nat} (hi : i < l.length) : indexAddrT (.sl 3 ⟨some false, some 1⟩) (iT l) (.int .i64 (i : Int)) = some (cptr (.int .i64 l[i])) := by
  unfold iT
  have e : (l.map (Value.int .i64))[i]? = some (.int .i64 l[i]) := by simp [hi]
  rw [index_lst, if_pos (by omega), show ((i : Int)).toNat = i by omega, e, Option.bind_some, if_pos (by rfl)]
theorem iT_set (l : List Int) : settled depth (iT l) = true := rfl
theorem iT_reify (h : Heap) (l : List Int) : reify E.P 8 h (iT l) = some (iT l) := rfl
theorem g3 : aggT E.P 3 = some false := by kernel_rfl
theorem int_reifyR {h : Heap} {b : Nat} {l : List Int} (hob : h[b]? = some (intR.row 3 l)) : reifyR E.P h (intR.sl b l) = some (iT l) := by
  have e0 : intR.sl b l = .slice (some ⟨b, 0, some l.length⟩) l.length l.length := by unfold Rec.sl; simp [intR]
  show reify E.P 8 h (intR.sl b l) = _
  rw [e0, reify_slice]
  by_cases h0 : l.length = 0
  · have : l = [] := List.eq_nil_of_length_eq_zero h0
    subst this; rfl
  · rw [if_neg h0, hob]
    unfold Rec.row
    rw [int_flat]
    show reifyS E.P 7 h (some (.cells 3 (l.map (.int .i64)) 1)) _ _ = _
    rw [reifyS_cells, s3, Option.bind_some, if_pos ⟨by simp [stampOk], Nat.one_pos, by simp⟩]
    have e : ((l.map (Value.int .i64)).drop 0).take (l.length * 1) = l.map (.int .i64) := by rw [List.drop_zero, Nat.mul_one, List.take_of_length_le (by simp)]
    rw [e, reifyC_set (by simp [List.all_eq_true]), Option.bind_some, elems_one g3 s3]; rfl
theorem int_freeze {h : Heap} {lo b : Nat} {l : List Int} (hob : h[b]? = some (intR.row 3 l)) (hlo : lo ≤ b) : ∃ g, freezeV E.P depth lo h (intR.sl b l) = some (iT l, g) := by
  have e0 : intR.sl b l = .slice (some ⟨b, 0, some l.length⟩) l.length l.length := by unfold Rec.sl; simp [intR]
  have hob' : h[b]? = some (.cells 3 (l.map (.int .i64)) 1) := by rw [hob]; unfold Rec.row; rw [int_flat]; rfl
  rw [e0]
  exact ⟨_, frz_one8 hob' s3 g3 hlo (List.length_map _).symm (List.length_map _).symm (by simp [List.all_eq_true])⟩
theorem int_sl {b : Nat} {c d : List Int} (h : c.length = d.length) : intR.sl b c = intR.sl b d := by unfold Rec.sl; rw [h]
theorem int_index {g : Option Bool} {b : Nat} {l : List Int} {i : Nat} (h1 : i < l.length) : indexAddrT (.sl 3 ⟨g, some 1⟩) (intR.sl b l) (.int .i64 (i : Int)) = some (intR.at_ b l i 0) := Rec.index_row (R := intR) rfl h1
theorem int_load {h : Heap} {b : Nat} {l : List Int} {i : Nat} {sz : Option Nat} (hob : h[b]? = some (intR.row 3 l)) (h1 : i < l.length) : loadT ⟨some false, sz⟩ h (intR.at_ b l i 0) = some (.int .i64 l[i]) := Rec.load_cell (R := intR) (j := 0) hob h1 (by decide)
theorem int_store {h : Heap} {b lo : Nat} {l : List Int} {i : Nat} (z : Int) (hob : h[b]? = some (intR.row 3 l)) (hlo : lo ≤ b) (h1 : i < l.length) : storeT (some 1) h lo (.int .i64 z) (intR.at_ b l i 0) = some (h.set b (intR.row 3 (l.set i z))) :=
  Rec.store_cell (R := intR) (j := 0) rfl hob hlo h1 (by decide) rfl
theorem lit_num (h : Heap) (z : Int) : buildSliceT (some ⟨3, 1, 8, .int .i64 0, ⟨some false, some 1⟩⟩) false h 1 #[(0, .int .i64 z)] = some (lst true [.int .i64 z], h) :=
  (build_lit' (n := 1) (l := [(0, .int .i64 z)]) rfl rfl (by decide) (by decide) (by decide)).trans rfl
theorem app_num {h : Heap} {b lo : Nat} {c : List Int} (z : Int) (hob : h[b]? = some (intR.row 3 c)) (hlo : lo ≤ b) (hc : c.length ≤ 1000000) :
    appendT (some ⟨3, 1, 8, .int .i64 0, ⟨some false, some 1⟩⟩) h lo false (intR.sl b c) (lst true [.int .i64 z]) = some (intR.sl b (c ++ [z]), h.set b (intR.row 3 (c ++ [z]))) :=
  Rec.app (R := intR) (m := [z]) rfl hob (cells_lst (by rfl)) hlo (by show (c.length + 1) * 8 ≤ 2 ^ 47; omega)

/-! ### A row while a place is made in it -/
def shiftRow (o : List Int) (m : Nat) : List Int := (o ++ [0]).take (m + 1) ++ o.drop m
theorem shiftRow_len {o : List Int} {m : Nat} (h : m ≤ o.length) : (shiftRow o m).length = o.length + 1 := by
  unfold shiftRow
  rw [List.length_append, List.length_take, List.length_drop, List.length_append]
  show min (m + 1) (o.length + 1) + (o.length - m) = _
  omega
theorem shiftRow_top (o : List Int) : shiftRow o o.length = o ++ [0] := by
  unfold shiftRow
  rw [List.drop_length, List.append_nil, List.take_of_length_le (by simp)]
theorem shiftRow_get {o : List Int} {m j : Nat} (h : m ≤ o.length) (hj : j < m) : (shiftRow o m)[j]'(by rw [shiftRow_len h]; omega) = o[j] := by
  unfold shiftRow
  rw [List.getElem_append_left (by rw [List.length_take, List.length_append]; simp; omega), List.getElem_take, List.getElem_append_left (by omega)]
theorem shiftRow_split {o : List Int} {m : Nat} (h : m ≤ o.length) : ∃ x, shiftRow o m = o.take m ++ x :: o.drop m := by
  refine ⟨(o ++ [0])[m]'(by simp; omega), ?_⟩
  unfold shiftRow
  rw [List.take_succ_eq_append_getElem (by simp; omega), List.take_append_of_le_length h, List.append_assoc]; rfl
theorem shiftRow_set {o : List Int} {m : Nat} (h : m ≤ o.length) (z : Int) : (shiftRow o m).set m z = putAt o m z := by
  obtain ⟨x, e⟩ := shiftRow_split h
  have hl : (o.take m).length = m := by rw [List.length_take]; omega
  rw [e, List.set_append_right _ _ (by omega), hl, Nat.sub_self]; rfl
theorem shiftRow_down {o : List Int} {m : Nat} (h : m + 1 ≤ o.length) : (shiftRow o (m + 1)).set (m + 1) (o[m]'(by omega)) = shiftRow o m := by
  rw [shiftRow_set h]
  unfold putAt shiftRow
  rw [List.take_append_of_le_length (by omega), List.drop_eq_getElem_cons (show m < o.length by omega)]
theorem sorted_spec (l : List Int) (hl : l.length ≤ 10000) : pureCall E.P (L E) 68 [iT l] = some (iT (sortU l)) := by
  rw [← Rg.insN_sortU, pureCall_fn F68 rfl]
  simp -implicitDefEqProofs [r68, p68, prep_new, newK_nil s3]
  rw [LL_for (γ := List Int) l [] (fun i o => [(3, intR.sl 0 o), (4, .int .i64 i)]) (fun _ o => [intR.row 3 o])
    (fun _ rest o => (.exit 0, [(3, intR.sl 0 (rest.foldl insN o)), (4, undef)], [intR.row 3 (rest.foldl insN o)])) (fun i o => o.length ≤ i) (by omega) (Nat.le_refl _)]
  · have rr := int_reifyR (h := [intR.row 3 (l.foldl insN [])]) (b := 0) (l := l.foldl insN []) rfl
    simp -implicitDefEqProofs [k68_3, rr]
  · simp -implicitDefEqProofs [k68_3, Rec.sl_nil]
  · rfl
  · intro nx i o hi _
    simp -implicitDefEqProofs [r68_3, k68_3, hi, iT_len, trim_le]
  · intro nx i z rest o hi hv hd hw ho ih
    have ixl := iT_index hi
    rw [hv] at ixl
    have hle := scan_le (fun j => decide (z < o.getD j 0)) o.length
    have gd : ∀ j (hj : j < o.length), o.getD j 0 = o[j] := fun j hj => by rw [List.getD_eq_getElem?_getD, List.getElem?_eq_getElem hj]; rfl
    have ei : insN o z = if 0 < scan (fun j => decide (z < o.getD j 0)) o.length ∧ o.getD (scan (fun j => decide (z < o.getD j 0)) o.length - 1) 0 = z then o else putAt o (scan (fun j => decide (z < o.getD j 0)) o.length) z := rfl
    have ixo := fun (j : Nat) (hj : j < o.length) => int_index (g := some false) (b := 0) (l := o) hj
    have ldo := fun (j : Nat) (hj : j < o.length) => int_load (h := [intR.row 3 o]) (b := 0) (l := o) (sz := some 1) rfl hj
    rw [List.foldl_cons]
    simp -implicitDefEqProofs [r68_3, k68_3, hi, iT_len, Rec.sl_len]
    rw [LL_rec (α := Nat) o.length (fun k => [(5, .int .i64 (k : Int))]) (fun _ => [intR.row 3 o]) (fun k => (.exit 2, [(5, .int .i64 ((scan (fun j => decide (z < o.getD j 0)) k : Nat) : Int))], [intR.row 3 o])) (fun k => k ≤ o.length) (fun k => k)]
    · generalize scan (fun j => decide (z < o.getD j 0)) o.length = k at hle ei ⊢
      have hk := hle
      have ap := app_num (h := [intR.row 3 o]) (b := 0) (lo := 0) (c := o) 0 rfl (Nat.le_refl _) (by omega)
      have wl : IntKind.i64.wrap (((o ++ [0]).length : Int) - 1) = (o.length : Int) := by
        have : (o ++ [0]).length = o.length + 1 := by simp
        rw [this]; exact (wrap64 (by omega) (by omega)).trans (by omega)
      by_cases hc : 0 < k ∧ o.getD (k - 1) 0 = z
      · rw [ei, if_pos hc]
        obtain ⟨hk0, hkz⟩ := hc
        have hko : k - 1 < o.length := by omega
        rw [gd _ hko] at hkz
        have hpos : (0 : Int) < (k : Int) := by omega
        have w1 : IntKind.i64.wrap ((k : Int) - 1) = ((k - 1 : Nat) : Int) := (wrap64 (by omega) (by omega)).trans (by omega)
        have ih := ih o (by omega)
        simp -implicitDefEqProofs [k68_3] at ih
        simp -implicitDefEqProofs [k68_6, hk0, w1, ixo _ hko, ldo _ hko, ixl, hkz, hw, trim_le]
        exact ih
      · rw [ei, if_neg hc]
        have ih := ih (putAt o k z) (by rw [Rg.putAt_len]; omega)
        simp -implicitDefEqProofs [k68_3] at ih
        have es : ∀ m, m ≤ o.length → intR.sl 0 (shiftRow o m) = intR.sl 0 (o ++ [0]) := fun m hm => int_sl (by rw [shiftRow_len hm]; simp)
        have ixs := fun (m : Nat) (hm : m ≤ o.length) (j : Nat) (hj : j < o.length + 1) => (es m hm) ▸ int_index (g := some false) (b := 0) (l := shiftRow o m) (i := j) (by rw [shiftRow_len hm]; exact hj)
        have esp : intR.sl 0 (putAt o k z) = intR.sl 0 (o ++ [0]) := int_sl (by rw [Rg.putAt_len]; simp)
        rw [esp] at ih
        have two : (¬ (0 : Int) < (k : Int)) ∨ ((0 : Int) < (k : Int) ∧ ∃ hko : k - 1 < o.length, ¬ o[k - 1] = z) := by
          by_cases h0 : 0 < k
          · have hko : k - 1 < o.length := by omega
            exact .inr ⟨by omega, hko, fun e => hc ⟨h0, by rw [gd _ hko]; exact e⟩⟩
          · exact .inl (by omega)
        have w1 : 0 < k → IntKind.i64.wrap ((k : Int) - 1) = ((k - 1 : Nat) : Int) := fun h => (wrap64 (by omega) (by omega)).trans (by omega)
        have ixk := ixs k hk k (by omega)
        have stk := int_store (h := [intR.row 3 (shiftRow o k)]) (b := 0) (lo := 0) (l := shiftRow o k) (i := k) z rfl (Nat.le_refl _) (by rw [shiftRow_len hk]; omega)
        rw [shiftRow_set hk] at stk
        rcases two with h0 | ⟨h0, hko, hne⟩
        · have h0n : ¬ (0 < k) := by omega
          simp -implicitDefEqProofs [k68_6, h0n, lit_num, ap, Rec.sl_len, wl, -List.length_append]
          rw [LL_rec (α := Nat) o.length (fun m => [(6, .int .i64 (m : Int))]) (fun m => [intR.row 3 (shiftRow o m)]) (fun m => (.exit 4, [(6, undef)], [intR.row 3 (shiftRow o k)])) (fun m => k ≤ m ∧ m ≤ o.length) (fun m => m)]
          · simp -implicitDefEqProofs [k68_11, ixk, stk, ixl, hw, trim_le]
            exact ih
          · exact ⟨hk, Nat.le_refl _⟩
          · simp -implicitDefEqProofs [k68_11]
          · simp only [shiftRow_top]
          · intro nx m hm ih
            by_cases hkm : k < m
            · obtain ⟨m, rfl⟩ : ∃ m', m = m' + 1 := ⟨m - 1, by omega⟩
              have hmo : m < o.length := by omega
              have ih := ih m (by omega) ⟨by omega, by omega⟩
              have w3 : IntKind.i64.wrap ((m : Int) + 1 - 1) = (m : Int) := (wrap64 (by omega) (by omega)).trans (by omega)
              have w4 : IntKind.i64.wrap (m : Int) = (m : Int) := wrap64 (by omega) (by omega)
              have hkm' : (k : Int) < (m : Int) + 1 := by omega
              have ixa := ixs (m + 1) (by omega) m (by omega)
              have ixb := ixs (m + 1) (by omega) (m + 1) (by omega)
              have lda := int_load (h := [intR.row 3 (shiftRow o (m + 1))]) (b := 0) (l := shiftRow o (m + 1)) (i := m) (sz := some 1) rfl (by rw [shiftRow_len (by omega)]; omega)
              rw [shiftRow_get (by omega) (by omega)] at lda
              have sta := int_store (h := [intR.row 3 (shiftRow o (m + 1))]) (b := 0) (lo := 0) (l := shiftRow o (m + 1)) (i := m + 1) o[m] rfl (Nat.le_refl _) (by rw [shiftRow_len (by omega)]; omega)
              rw [shiftRow_down hmo] at sta
              push_cast at ixb
              simp -implicitDefEqProofs [k68_11] at ih
              simp -implicitDefEqProofs [r68_11, k68_11, hkm', w4, ixa, ixb, lda, sta, trim_le]
              exact ih
            · have e : m = k := by omega
              subst e
              simp -implicitDefEqProofs [r68_11, k68_11, trim_le]
        · have h0' : 0 < k := by omega
          simp -implicitDefEqProofs [k68_6, h0', w1 h0', ixo _ hko, ldo _ hko, ixl, hne, lit_num, ap, Rec.sl_len, wl, -List.length_append]
          rw [LL_rec (α := Nat) o.length (fun m => [(6, .int .i64 (m : Int))]) (fun m => [intR.row 3 (shiftRow o m)]) (fun m => (.exit 4, [(6, undef)], [intR.row 3 (shiftRow o k)])) (fun m => k ≤ m ∧ m ≤ o.length) (fun m => m)]
          · simp -implicitDefEqProofs [k68_11, ixk, stk, ixl, hw, trim_le]
            exact ih
          · exact ⟨hk, Nat.le_refl _⟩
          · simp -implicitDefEqProofs [k68_11]
          · simp only [shiftRow_top]
          · intro nx m hm ih
            by_cases hkm : k < m
            · obtain ⟨m, rfl⟩ : ∃ m', m = m' + 1 := ⟨m - 1, by omega⟩
              have hmo : m < o.length := by omega
              have ih := ih m (by omega) ⟨by omega, by omega⟩
              have w3 : IntKind.i64.wrap ((m : Int) + 1 - 1) = (m : Int) := (wrap64 (by omega) (by omega)).trans (by omega)
              have w4 : IntKind.i64.wrap (m : Int) = (m : Int) := wrap64 (by omega) (by omega)
              have hkm' : (k : Int) < (m : Int) + 1 := by omega
              have ixa := ixs (m + 1) (by omega) m (by omega)
              have ixb := ixs (m + 1) (by omega) (m + 1) (by omega)
              have lda := int_load (h := [intR.row 3 (shiftRow o (m + 1))]) (b := 0) (l := shiftRow o (m + 1)) (i := m) (sz := some 1) rfl (by rw [shiftRow_len (by omega)]; omega)
              rw [shiftRow_get (by omega) (by omega)] at lda
              have sta := int_store (h := [intR.row 3 (shiftRow o (m + 1))]) (b := 0) (lo := 0) (l := shiftRow o (m + 1)) (i := m + 1) o[m] rfl (Nat.le_refl _) (by rw [shiftRow_len (by omega)]; omega)
              rw [shiftRow_down hmo] at sta
              push_cast at ixb
              simp -implicitDefEqProofs [k68_11] at ih
              simp -implicitDefEqProofs [r68_11, k68_11, hkm', w4, ixa, ixb, lda, sta, trim_le]
              exact ih
            · have e : m = k := by omega
              subst e
              simp -implicitDefEqProofs [r68_11, k68_11, trim_le]
    · exact Nat.le_refl _
    · simp -implicitDefEqProofs [k68_6]
    · rfl
    · intro nx k hk ih
      cases k with
      | zero => simp -implicitDefEqProofs [r68_6, k68_6, scan, trim_le]
      | succ k =>
        have hko : k < o.length := by omega
        have w1 : IntKind.i64.wrap ((k : Int) + 1 - 1) = (k : Int) := (wrap64 (by omega) (by omega)).trans (by omega)
        have w2 : IntKind.i64.wrap (k : Int) = (k : Int) := wrap64 (by omega) (by omega)
        have hpos : (0 : Int) < (k : Int) + 1 := by omega
        have ih := ih k (by omega) (by omega)
        have e : scan (fun j => decide (z < o.getD j 0)) (k + 1) = if decide (z < o.getD k 0) then scan (fun j => decide (z < o.getD j 0)) k else k + 1 := rfl
        rw [e, gd k hko]
        simp -implicitDefEqProofs [k68_6] at ih
        by_cases hz : z < o[k]
        · simp -implicitDefEqProofs [r68_6, k68_6, hpos, w2, ixo k hko, ldo k hko, ixl, hz, trim_le]
          exact ih
        · simp -implicitDefEqProofs [r68_6, k68_6, hpos, w2, ixo k hko, ldo k hko, ixl, hz, trim_le]
end Go.Proofs.Ytimjfondgdhfcaa.Bm

namespace Go.Proofs.Ytimjfondgdhfcaa.Bm
open Go Go.RowKit
open Rg (Rect Slab Pt sidesP upS hB ysP colY polyL rightP sortU stripL outT emit pairs ends)

def polyX (p : List Pt) : Except Int (List Rect) := if rightP p then (if 200 < (polyL p).length then .error 6 else .ok (polyL p)) else .error 10
theorem ends_even7 : ∀ {c : List (Int × Int)} {j : Nat} (hj : j < c.length), (ends c)[2 * j]? = some c[j].1 ∧ (ends c)[2 * j + 1]? = some c[j].2
  | [], j, hj => by simp at hj
  | s :: c, 0, _ => ⟨rfl, rfl⟩
  | s :: c, j + 1, hj => ends_even7 (c := c) (j := j) (by simpa using hj)
theorem ends_at7 {c : List (Int × Int)} {j : Nat} (hj : j < c.length) : ∃ (h1 : 2 * j < (ends c).length) (h2 : 2 * j + 1 < (ends c).length), (ends c)[2 * j] = c[j].1 ∧ (ends c)[2 * j + 1] = c[j].2 := by
  have hl := Rg.ends_len c
  obtain ⟨e1, e2⟩ := ends_even7 hj
  refine ⟨by omega, by omega, ?_, ?_⟩
  · rw [List.getElem?_eq_getElem (by omega)] at e1; exact Option.some.inj e1
  · rw [List.getElem?_eq_getElem (by omega)] at e2; exact Option.some.inj e2
theorem emit_cons7 (x0 x1 : Int) (s : Int × Int) (c : List (Int × Int)) : emit ⟨x0, x1, s :: c⟩ = [⟨x0, s.1, x1, s.2⟩] ++ emit ⟨x0, x1, c⟩ := rfl
theorem strip_step {c : Int → List (Int × Int)} {U : List Int} {i : Nat} (h : i + 1 < U.length) : outT (stripL c (U.drop i)) = emit ⟨U[i], U[i + 1], c U[i]⟩ ++ outT (stripL c (U.drop (i + 1))) := by
  rw [List.drop_eq_getElem_cons (show i < U.length by omega), List.drop_eq_getElem_cons h]; rfl
theorem strip_end {c : Int → List (Int × Int)} {U : List Int} {i : Nat} (h : ¬ i + 1 < U.length) : outT (stripL c (U.drop i)) = [] := by
  have hl : (U.drop i).length ≤ 1 := by rw [List.length_drop]; omega
  match U.drop i, hl with
  | [], _ => rfl
  | [_], _ => rfl
theorem hB_up {x : Int} {s : Pt × Pt} (h : upS s = true) : hB x s = false := by
  unfold upS at h
  rw [decide_eq_true_eq] at h
  cases q : hB x s
  · rfl
  · rw [Rg.hB_iff] at q; omega
theorem sett (z : Int) : settled depth (.int .i64 z) = true := rfl
set_option maxHeartbeats 4000000 in
theorem pregion_spec (x : Bool) (p : List Pt) (hp : p.length ≤ 1000000) : pureCall E.P (L E) 21 [lst x (spanR.vals p)] = some (resL (polyX p)) := by
  have ln : ∀ h, lenT .sl h (lst x (spanR.vals p)) = some (.int .i64 p.length) := fun h => Rec.tree_len
  have hR := pright_spec x p hp
  have rf : ∀ h, reify E.P 8 h (lst x (spanR.vals p)) = some (lst x (spanR.vals p)) := fun _ => rfl
  have sv0 : settled depth (lst x (spanR.vals p)) = true := rfl
  have bP : ∀ d n, below (d + 1) n (lst x (spanR.vals p)) = true := fun d n => rfl
  have pix : ∀ (j : Nat) (hj : j < p.length), indexAddrT (.sl 36 ⟨some true, some 2⟩) (lst x (spanR.vals p)) (.int .i64 (j : Int)) = some (cptr (spanR.val p[j])) := fun j hj => Rec.index_tree rfl hj
  rw [pureCall_fn F21 rfl]
  unfold polyX
  generalize hPV : lst x (spanR.vals p) = PV at *
  cases hr : rightP p
  · rw [hr] at hR
    simp -implicitDefEqProofs [r21, p21, ret0 m38, rf, hR, resL]
  rw [hr] at hR
  obtain ⟨hp4, hp60⟩ := Rg.rightP_len hr
  simp -implicitDefEqProofs [r21, p21, ret0 m38, rf, hR, prep_new, newK_nil s3, ln]
  rw [LL_for (γ := List Int) p [] (fun i c => [(4, intR.sl 0 c), (19, .int .i64 i)]) (fun _ c => [intR.row 3 c])
    (fun _ rest c => (.exit 0, [(4, intR.sl 0 (c ++ rest.map (·.1))), (19, undef)], [intR.row 3 (c ++ rest.map (·.1))])) (fun i c => c.length = i) (by omega) rfl]
  · rw [List.nil_append]
    have hxl : (p.map (·.1)).length = p.length := List.length_map _
    have hU : (sortU (p.map (·.1))).length ≤ p.length := by
      have := Rg.sortU_le (p.map (·.1)); omega
    have so := sortInts (h := [intR.row 3 (p.map (·.1))]) (b := 0) (lo := 0) (d := p.map (·.1)) rfl (Nat.le_refl _) (by omega)
    obtain ⟨r, co, hrl⟩ := compInts (h := [intR.row 3 (sortI (p.map (·.1)))]) (b := 0) (lo := 0) (d := sortI (p.map (·.1))) rfl (Nat.le_refl _) (by rw [sortI_len]; omega)
    rw [Rg.comp_sort] at co hrl
    have e1 : intR.sl 0 (sortI (p.map (·.1))) = intR.sl 0 (p.map (·.1)) := by unfold Rec.sl; rw [sortI_len]
    rw [e1, sortI_len, hxl] at co
    rw [sortI_len, hxl] at hrl
    have ar : pureCall E.P (L E) 41 [PV] = some (lst false (sideR.vals (sidesP p))) := by rw [← hPV]; exact around_spec x p (by omega)
    have sln := sides_lenT p
    have bS : ∀ d n, below (d + 1) n (lst false (sideR.vals (sidesP p))) = true := fun d n => rfl
    have six : ∀ (j : Nat) (hj : j < (sidesP p).length), indexAddrT (.sl 77 ⟨some true, some 4⟩) (lst false (sideR.vals (sidesP p))) (.int .i64 (j : Int)) = some (cptr (sideR.val (sidesP p)[j])) := fun j hj => Rec.index_tree rfl hj
    have hsl := Rg.sides_len p
    have ePL : polyL p = outT (stripL (colY p) (sortU (p.map (·.1)))) := rfl
    rw [ePL]
    have hev : ∀ x, (sortI (ysP p x)).length % 2 = 0 := fun x => by rw [sortI_len]; exact Rg.ys_even p x
    have hyl : ∀ x, (ysP p x).length ≤ p.length := fun x => Rg.ys_len p x
    have wl : IntKind.i64.wrap (((sortU (p.map (·.1))).length : Int) - 1) = ((sortU (p.map (·.1))).length : Int) - 1 := wrap64 (by omega) (by omega)
    simp -implicitDefEqProofs [k21_5, wl, ret2 (E := E) (f := 39) rfl, ret2 (E := E) (f := 40) rfl, so, co, ret1 m41, sv0, ar, prep_new, newK_nil s32, pre_len]
    generalize hSV : lst false (sideR.vals (sidesP p)) = SV at *
    generalize sortU (p.map (·.1)) = U at *
    clear so co e1 ePL hxl hR
    rw [LL_rec (α := Nat × List Rect) (0, []) (fun c => [(8, rectR.sl 1 c.2), (38, .int .i64 (c.1 : Int))]) (fun c => [intR.row 3 (U ++ r), rectR.row 55 c.2])
      (fun c => (.exit 2, [(8, rectR.sl 1 (c.2 ++ outT (stripL (colY p) (U.drop c.1)))), (38, undef)], [intR.row 3 (U ++ r), rectR.row 55 (c.2 ++ outT (stripL (colY p) (U.drop c.1)))])) (fun c => c.1 ≤ U.length ∧ c.2.length ≤ 100 * c.1) (fun c => U.length - c.1)]
    · rw [List.drop_zero, List.nil_append]
      generalize outT (stripL (colY p) U) = F
      have rr := Rec.reify_row (R := rectR) (P := E.P) (h := [intR.row 3 (U ++ r), rectR.row 55 F]) (b := 1) (n := 7) (t := 55) (l := F) rfl s32 a32
      by_cases h2 : 200 < F.length
      · have h2' : 200 < (F.length : Int) := by omega
        simp -implicitDefEqProofs [k21_14, Rec.sl_len, h2, h2', resL]
      · have h2' : ¬ (200 < (F.length : Int)) := by omega
        simp -implicitDefEqProofs [k21_14, Rec.sl_len, h2, h2', rr, resL]
    · exact ⟨Nat.zero_le _, Nat.zero_le _⟩
    · simp -implicitDefEqProofs [k21_14, Rec.sl_nil]
    · rfl
    · intro nx c hc ih
      obtain ⟨i, o⟩ := c
      obtain ⟨h1, h2⟩ := hc
      simp only at h1 h2
      by_cases hi : i + 1 < U.length
      · have hi' : (i : Int) < (U.length : Int) - 1 := by omega
        have wi : IntKind.i64.wrap ((i : Int) + 1) = ((i + 1 : Nat) : Int) := (wrap64 (by omega) (by omega)).trans (by omega)
        have px := pre_index (t := 3) (g := some false) (b := 0) (n := p.length) (k := .i64) (e := U) (i := i) (by omega)
        have px1 := pre_index (t := 3) (g := some false) (b := 0) (n := p.length) (k := .i64) (e := U) hi
        have pl := fun a b => pre_load (h := [intR.row 3 (U ++ r), a, b]) (b := 0) (n := p.length) (sz := some 1) (e := U) (i := i) rfl hrl (by omega)
        have pl2 := fun a b c => pre_load (h := [intR.row 3 (U ++ r), a, b, c]) (b := 0) (n := p.length) (sz := some 1) (e := U) (i := i) rfl hrl (by omega)
        have pl1 := fun a b => pre_load (h := [intR.row 3 (U ++ r), a, b]) (b := 0) (n := p.length) (sz := some 1) (e := U) rfl hrl hi
        have hcl : 2 * (colY p U[i]).length ≤ p.length := Rg.colY_len p U[i]
        have ih := ih (i + 1, o ++ emit ⟨U[i], U[i + 1], colY p U[i]⟩) (by show U.length - (i + 1) < U.length - i; omega) ⟨by show i + 1 ≤ U.length; omega, by
          show (o ++ emit ⟨U[i], U[i + 1], colY p U[i]⟩).length ≤ 100 * (i + 1)
          have e : (emit ⟨U[i], U[i + 1], colY p U[i]⟩).length = (colY p U[i]).length := List.length_map _
          rw [List.length_append, e]; omega⟩
        rw [strip_step hi, ← List.append_assoc]
        have ecol : colY p U[i] = pairs (sortI (ysP p U[i])) := rfl
        have eys : ysP p U[i] = ((sidesP p).filter (hB U[i])).map (fun s => s.1.2) := rfl
        have hev := hev U[i]
        have hyl := hyl U[i]
        have ee := Rg.ends_pairs hev
        rw [ecol] at ih ⊢
        generalize hx0 : U[i] = x0 at *
        generalize hx1 : U[i + 1] = x1 at *
        generalize outT (stripL (colY p) (U.drop (i + 1))) = F at *
        simp -implicitDefEqProofs [k21_14, -List.append_assoc] at ih
        simp -implicitDefEqProofs [r21_14, k21_14, pre_len, wl, hi, hi', prep_new, newK_nil s3, sln, -List.append_assoc]
        rw [LL_for (γ := List Int) (sidesP p) [] (fun j c => [(10, intR.sl 2 c), (43, .int .i64 j)]) (fun _ c => [intR.row 3 (U ++ r), rectR.row 55 o, intR.row 3 c])
          (fun _ rest c => (.exit 4, [(10, intR.sl 2 (c ++ (rest.filter (hB x0)).map (fun s => s.1.2))), (43, undef)], [intR.row 3 (U ++ r), rectR.row 55 o, intR.row 3 (c ++ (rest.filter (hB x0)).map (fun s => s.1.2))])) (fun j c => c.length ≤ j) (by omega) (Nat.le_refl _)]
        · rw [List.nil_append, ← eys]
          have so2 := sortInts (h := [intR.row 3 (U ++ r), rectR.row 55 o, intR.row 3 (ysP p x0)]) (b := 2) (lo := 0) (d := ysP p x0) rfl (Nat.zero_le _) (by omega)
          have hLl : (sortI (ysP p x0)).length = (ysP p x0).length := sortI_len _
          have esl : intR.sl 2 (sortI (ysP p x0)) = intR.sl 2 (ysP p x0) := int_sl hLl
          generalize ysP p x0 = Y at *
          generalize sortI Y = Lq at *
          have hel := Rg.ends_len (pairs Lq)
          rw [ee] at hel
          have ixL := fun (j : Nat) (hj : j < Lq.length) => int_index (g := some false) (b := 2) (l := Lq) hj
          rw [esl] at ixL
          simp -implicitDefEqProofs [k21_18, ret2 (E := E) (f := 39) rfl, so2, -List.append_assoc]
          rw [LL_for (γ := List Rect) (pairs Lq) o (fun j o' => [(8, rectR.sl 1 o'), (13, .int .i64 ((2 * j : Nat) : Int))]) (fun _ o' => [intR.row 3 (U ++ r), rectR.row 55 o', intR.row 3 Lq])
            (fun _ rest o' => (.exit 6, [(8, rectR.sl 1 (o' ++ emit ⟨x0, x1, rest⟩)), (13, undef)], [intR.row 3 (U ++ r), rectR.row 55 (o' ++ emit ⟨x0, x1, rest⟩), intR.row 3 Lq])) (fun j o' => o'.length = o.length + j) (by omega) rfl]
          · simp -implicitDefEqProofs [k21_25, wi, trim_cut, bP, bS, Rec.sl_bel, Rec.row_bel, pre_bel, -List.append_assoc, -Int.natCast_add]
            exact ih
          · simp -implicitDefEqProofs [k21_25]
          · rfl
          · intro nx j o' hj _
            have w2 : IntKind.i64.wrap (((2 * j : Nat) : Int) + 1) = ((2 * j + 1 : Nat) : Int) := wrap64 (by omega) (by omega)
            have hjn : ¬ (((2 * j + 1 : Nat) : Int) < (Y.length : Int)) := by omega
            have hjn' : ¬ (2 * j + 1 < Y.length) := by omega
            have e0 : emit ⟨x0, x1, []⟩ = [] := rfl
            simp -implicitDefEqProofs [r21_25, k21_25, Rec.sl_len, w2, hjn, hjn', e0, trim_le, -Int.natCast_add, -Int.natCast_mul]
          · intro nx j s rest o' hj hv hd hw ho ih
            obtain ⟨g1, g2, g3, g4⟩ := ends_at7 hj
            simp only [ee] at g1 g2 g3 g4
            rw [hv] at g3 g4
            have st := app_rect (h := [intR.row 3 (U ++ r), rectR.row 55 o', intR.row 3 Lq]) (b := 1) (lo := 0) (c := o') ⟨x0, s.1, x1, s.2⟩ rfl (Nat.zero_le _) (by omega)
            have w2 : IntKind.i64.wrap (((2 * j : Nat) : Int) + 1) = ((2 * j + 1 : Nat) : Int) := wrap64 (by omega) (by omega)
            have w3 : IntKind.i64.wrap (((2 * j : Nat) : Int) + 2) = ((2 * (j + 1) : Nat) : Int) := (wrap64 (by omega) (by omega)).trans (by omega)
            have hjn : ((2 * j + 1 : Nat) : Int) < (Y.length : Int) := by omega
            have hjn' : 2 * j + 1 < Y.length := by omega
            have ixa := ixL (2 * j) g1
            have ixb := ixL (2 * j + 1) g2
            have lda := int_load (h := [intR.row 3 (U ++ r), rectR.row 55 o', intR.row 3 Lq]) (b := 2) (l := Lq) (i := 2 * j) (sz := some 1) rfl g1
            have ldb := int_load (h := [intR.row 3 (U ++ r), rectR.row 55 o', intR.row 3 Lq]) (b := 2) (l := Lq) (i := 2 * j + 1) (sz := some 1) rfl g2
            rw [g3] at lda
            rw [g4] at ldb
            have ih := ih (o' ++ [⟨x0, s.1, x1, s.2⟩]) (by rw [List.length_append]; show o'.length + 1 = _; omega)
            rw [emit_cons7, ← List.append_assoc]
            simp -implicitDefEqProofs [k21_25, -List.append_assoc, -Int.natCast_add, -Int.natCast_mul] at ih
            simp -implicitDefEqProofs [r21_25, k21_25, Rec.sl_len, wi, w2, w3, hjn, hjn', px, pl, px1, pl1, ixa, ixb, lda, ldb, b4_all, lit_rect, st, trim_le, -List.append_assoc, -Int.natCast_add, -Int.natCast_mul]
            exact ih
        · simp -implicitDefEqProofs [k21_18, Rec.sl_nil]
        · rfl
        · intro nx j c hj _
          simp -implicitDefEqProofs [r21_18, k21_18, hj, sln, hsl, trim_le]
        · intro nx j s rest c hj hv hd hw hc ih
          have sj := six j hj
          rw [hv, side_val] at sj
          have us := up_spec s
          have hjp : j < p.length := by omega
          have ap := fun q => app_num (h := [intR.row 3 (U ++ r), rectR.row 55 o, intR.row 3 c, q]) (b := 2) (lo := 0) (c := c) s.1.2 rfl (Nat.zero_le _) (by omega)
          cases hu : upS s
          · rw [hu] at us
            by_cases m1 : min s.1.1 s.2.1 ≤ x0
            · by_cases m2 : x0 < max s.1.1 s.2.1
              · have ih := ih (c ++ [s.1.2]) (by simp; omega)
                rw [List.filter_cons_of_pos (Rg.hB_iff.2 ⟨m1, m2⟩), List.map_cons, show c ++ s.1.2 :: (rest.filter (hB x0)).map (fun s => s.1.2) = c ++ [s.1.2] ++ (rest.filter (hB x0)).map (fun s => s.1.2) by rw [List.append_assoc]; rfl]
                simp -implicitDefEqProofs [k21_18, -List.append_assoc] at ih
                simp -implicitDefEqProofs [r21_18, k21_18, hj, hjp, sln, hsl, sj, ret0 m42, us, px, pl2, min_int, max_int, m1, m2, lit_num, ap, hw, trim_cut, bP, bS, Rec.sl_bel, Rec.row_bel, pre_bel, -List.append_assoc]
                exact ih
              · have ih := ih c (by omega)
                rw [List.filter_cons_of_neg (by rw [Rg.hB_iff]; omega)]
                simp -implicitDefEqProofs [k21_18, -List.append_assoc] at ih
                simp -implicitDefEqProofs [r21_18, k21_18, hj, hjp, sln, hsl, sj, ret0 m42, us, px, pl2, min_int, max_int, m1, m2, hw, trim_cut, bP, bS, Rec.sl_bel, Rec.row_bel, pre_bel, -List.append_assoc]
                exact ih
            · have ih := ih c (by omega)
              rw [List.filter_cons_of_neg (by rw [Rg.hB_iff]; omega)]
              simp -implicitDefEqProofs [k21_18, -List.append_assoc] at ih
              simp -implicitDefEqProofs [r21_18, k21_18, hj, hjp, sln, hsl, sj, ret0 m42, us, px, pl2, min_int, max_int, m1, hw, trim_cut, bP, bS, Rec.sl_bel, Rec.row_bel, pre_bel, -List.append_assoc]
              exact ih
          · rw [hu] at us
            have ih := ih c (by omega)
            rw [List.filter_cons_of_neg (by rw [hB_up hu]; decide)]
            simp -implicitDefEqProofs [k21_18, -List.append_assoc] at ih
            simp -implicitDefEqProofs [r21_18, k21_18, hj, hjp, sln, hsl, sj, ret0 m42, us, px, pl2, min_int, max_int, hw, trim_cut, bP, bS, Rec.sl_bel, Rec.row_bel, pre_bel, -List.append_assoc]
            exact ih
      · have hi' : ¬ ((i : Int) < (U.length : Int) - 1) := by omega
        rw [strip_end hi, List.append_nil]
        simp -implicitDefEqProofs [r21_14, k21_14, pre_len, wl, hi, hi', trim_le]
  · simp -implicitDefEqProofs [k21_5, Rec.sl_nil]
  · rfl
  · intro nx i c hi _
    simp -implicitDefEqProofs [r21_5, k21_5, hi, ln, trim_le]
  · intro nx i v rest c hi hv hd hw hc ih
    have pi := pix i hi
    rw [hv, span_val] at pi
    have ap := fun q => app_num (h := [intR.row 3 c, q]) (b := 0) (lo := 0) (c := c) v.1 rfl (Nat.le_refl _) (by omega)
    have ih := ih (c ++ [v.1]) (by simp; omega)
    have em : (v :: rest).map (·.1) = [v.1] ++ rest.map (·.1) := rfl
    rw [em, ← List.append_assoc]
    simp -implicitDefEqProofs [k21_5, -List.append_assoc] at ih
    simp -implicitDefEqProofs [r21_5, k21_5, hi, ln, pi, lit_num, ap, hw, trim_cut, bP, Rec.sl_bel, Rec.row_bel, -List.append_assoc]
    exact ih
end Go.Proofs.Ytimjfondgdhfcaa.Bm
