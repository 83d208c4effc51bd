/-
  Chapter 18: plans as data, the cells and the shares of zones, walked. Conditions: few zones, with few corners.
-/
import Derived.Test.YtjkemccfcabhgaaQA18
namespace Go.Proofs.Ytjkemccfcabhgaa.Bm
open Go Go.RowKit
open Rg (Rect Pt sidesP upS crossB onB sd okI okJ crI crJ rightP allFr allFr_step allFr_end)
def sideR : Rec (Pt × Pt) where
  enc s := [.int .i64 s.1.1, .int .i64 s.1.2, .int .i64 s.2.1, .int .i64 s.2.2]
  m := 3
  len _ := rfl
  set _ := rfl
  bel _ _ := rfl
theorem side_val {s : Pt × Pt} : sideR.val s = .agg ⟨[.int .i64 s.1.1, .int .i64 s.1.2, .int .i64 s.2.1, .int .i64 s.2.2]⟩ := rfl
theorem sS : szOf E.P 116 = some 4 := by kernel_rfl
theorem aS : aggT E.P 116 = some true := by kernel_rfl
theorem min_int (a b : Int) : aMinMax false [.int .i64 a, .int .i64 b] = some (.int .i64 (min a b)) := by
  show some (Value.int .i64 (if b < a then b else a)) = _
  congr 2
  omega
theorem nan_spec (z : Int) : pureCall E.P (L E) 73 [.int .i64 z] = some (.bool false) := by
  rw [pureCall_fn F73 rfl]
  simp -implicitDefEqProofs [r73, padS]
def cmpI (a b : Int) : Int := if a < b then -1 else if b < a then 1 else 0
theorem cmp_spec (a b : Int) : pureCall E.P (L E) 61 [.int .i64 a, .int .i64 b] = some (.int .i64 (cmpI a b)) := by
  have n1 := nan_spec a
  have n2 := nan_spec b
  rw [pureCall_fn F61 rfl]
  unfold cmpI
  by_cases h1 : a < b
  · simp -implicitDefEqProofs [r61, padS, ret0 m73, n1, n2, h1]
  by_cases h2 : b < a
  · simp -implicitDefEqProofs [r61, padS, ret0 m73, n1, n2, h1, h2]
  simp -implicitDefEqProofs [r61, padS, ret0 m73, n1, n2, h1, h2]
def orL : List Int → Int
  | [] => 0
  | z :: l => if z = 0 then orL l else z
theorem cor_spec (l : List Int) (hl : l.length ≤ 1000) : pureCall E.P (L E) 60 [lst true (l.map (.int .i64))] = some (.int .i64 (orL l)) := by
  have ix : ∀ (i : Nat) (hi : i < l.length), indexAddrT (.sl 3 ⟨some false, some 1⟩) (lst true (l.map (.int .i64))) (.int .i64 (i : Int)) = some (cptr (.int .i64 l[i])) := fun i hi => by
    have e : (l.map (Value.int .i64))[i]? = some (.int .i64 l[i]) := by simp [hi]
    rw [index_lst, if_pos (by omega), show ((i : Int)).toNat = i by omega, e, Option.bind_some, if_pos (by rfl)]
  have ln : ∀ h, lenT .sl h (lst true (l.map (.int .i64))) = some (.int .i64 l.length) := fun h => by rw [len_lst]; simp
  rw [pureCall_fn F60 rfl]
  simp -implicitDefEqProofs [r60, p60, ln]
  rw [LL_for (γ := Unit) l () (fun i _ => [(8, .int .i64 i)]) (fun _ _ => []) (fun _ rest _ => if orL rest = 0 then (.exit 0, [(8, undef)], []) else (.ret, [(2, .int .i64 (orL rest)), (8, undef)], [])) (fun _ _ => True) (by omega) trivial]
  · by_cases h : orL l = 0
    · simp -implicitDefEqProofs [k60_3, h]
    · simp -implicitDefEqProofs [k60_3, h]
  · simp -implicitDefEqProofs [k60_3]
  · rfl
  · intro nx i c hi _
    simp -implicitDefEqProofs [r60_3, k60_3, hi, ln, trim_le, orL]
  · intro nx i z rest c hi hv hd hw _ ih
    have ih := ih () trivial
    have ixi := ix i hi
    rw [hv] at ixi
    have eo : orL (z :: rest) = if z = 0 then orL rest else z := rfl
    rw [eo]
    simp -implicitDefEqProofs [k60_3] at ih
    by_cases hz : z = 0
    · subst hz
      simp -implicitDefEqProofs [r60_3, k60_3, hi, ln, ixi, hw, trim_le]
      exact ih
    · simp -implicitDefEqProofs [r60_3, k60_3, hi, ln, ixi, hz, trim_le]
def cmpP (a b : Pt) : Int := orL [cmpI a.1 b.1, cmpI a.2 b.2]
theorem cmpP_lt (a b : Pt) : cmpP a b < 0 ↔ Rg.ltP a b = true := by
  unfold cmpP orL orL orL cmpI Rg.ltP
  simp only [Bool.or_eq_true, Bool.and_eq_true, decide_eq_true_eq]
  split <;> (repeat' split) <;> omega
theorem lit_ints2 (h : Heap) (a b : Int) : buildSliceT (some ⟨3, 1, 8, .int .i64 0, ⟨some false, some 1⟩⟩) false h 2 #[(0, .int .i64 a), (1, .int .i64 b)] = some (lst true [.int .i64 a, .int .i64 b], h) :=
  (build_lit' (n := 2) (l := [(0, .int .i64 a), (1, .int .i64 b)]) rfl rfl (by decide) (by decide) (by decide)).trans rfl
theorem compare_spec (a b : Pt) : pureCall E.P (L E) 53 [.agg ⟨[.int .i64 a.1, .int .i64 a.2]⟩, .agg ⟨[.int .i64 b.1, .int .i64 b.2]⟩] = some (.int .i64 (cmpP a b)) := by
  have c1 := cmp_spec a.1 b.1
  have c2 := cmp_spec a.2 b.2
  have c3 := cor_spec [cmpI a.1 b.1, cmpI a.2 b.2] (by show 2 ≤ 1000; omega)
  have rf : ∀ h (u v : Int), reify E.P 8 h (lst true [.int .i64 u, .int .i64 v]) = some (lst true [.int .i64 u, .int .i64 v]) := fun _ _ _ => rfl
  simp only [List.map_cons, List.map_nil] at c3
  rw [pureCall_fn F53 rfl]
  unfold cmpP
  simp -implicitDefEqProofs [r53, padS, ret0 m61, c1, c2, lit_ints2, ret0 m60, rf, c3]
theorem grid_spec (a : Pt) : pureCall E.P (L E) 52 [.agg ⟨[.int .i64 a.1, .int .i64 a.2]⟩] = some (.bool (onB a)) := by
  unfold onB
  rw [pureCall_fn F52 rfl]
  by_cases h1 : 0 ≤ a.1
  case neg => simp -implicitDefEqProofs [r52, padS, h1]
  by_cases h2 : a.1 ≤ 1048576
  case neg => simp -implicitDefEqProofs [r52, padS, h1, h2]
  by_cases h3 : 0 ≤ a.2
  case neg => simp -implicitDefEqProofs [r52, padS, h1, h2, h3]
  simp -implicitDefEqProofs [r52, padS, h1, h2, h3]
theorem up_spec (s : Pt × Pt) : pureCall E.P (L E) 47 [.agg ⟨[.int .i64 s.1.1, .int .i64 s.1.2, .int .i64 s.2.1, .int .i64 s.2.2]⟩] = some (.bool (upS s)) := by
  unfold upS
  rw [pureCall_fn F47 rfl]
  by_cases h : s.1.1 = s.2.1 <;> simp -implicitDefEqProofs [r47, padS, h]
theorem crosses_spec (s t : Pt × Pt) : pureCall E.P (L E) 54 [.agg ⟨[.int .i64 s.1.1, .int .i64 s.1.2, .int .i64 s.2.1, .int .i64 s.2.2]⟩, .agg ⟨[.int .i64 t.1.1, .int .i64 t.1.2, .int .i64 t.2.1, .int .i64 t.2.2]⟩] = some (.bool (crossB s t)) := by
  unfold crossB
  rw [pureCall_fn F54 rfl]
  by_cases h : max (min s.1.1 s.2.1) (min t.1.1 t.2.1) ≤ min (max s.1.1 s.2.1) (max t.1.1 t.2.1)
  · simp -implicitDefEqProofs [r54, p54, min_int, max_int, h]
  · simp -implicitDefEqProofs [r54, p54, min_int, max_int, h]
theorem b22 (a b c d : Int) : buildT (Bl.fs ⟨[.int .i64 0, .int .i64 0, .int .i64 0, .int .i64 0]⟩ ⟨[(0, 2), (2, 2)]⟩) #[(0, .agg ⟨[.int .i64 a, .int .i64 b]⟩), (1, .agg ⟨[.int .i64 c, .int .i64 d]⟩)] = some (.agg ⟨[.int .i64 a, .int .i64 b, .int .i64 c, .int .i64 d]⟩) := rfl
def zeroS : Pt × Pt := ((0, 0), (0, 0))
theorem make_sides (h : Heap) (n : Nat) (hn : n ≤ 1000000) : makeSliceT (some ⟨116, 4, 32, .agg ⟨[.int .i64 0, .int .i64 0, .int .i64 0, .int .i64 0]⟩, ⟨some true, some 4⟩⟩) h (.int .i64 (n : Int)) (.int .i64 (n : Int)) = some (sideR.msl h.length (List.replicate n zeroS), h ++ [sideR.mrow 116 (List.replicate n zeroS)]) :=
  Rec.make_rec (R := sideR) (a := zeroS) rfl rfl hn (by decide)
def part (p : List Pt) (i : Nat) : List (Pt × Pt) := (sidesP p).take i ++ List.replicate (p.length - i) zeroS
theorem part_len {p : List Pt} {i : Nat} (h : i ≤ p.length) : (part p i).length = p.length := by
  unfold part
  rw [List.length_append, List.length_take, Rg.sides_len, List.length_replicate]; omega
theorem part_set {p : List Pt} {i : Nat} (h : i < p.length) : (part p i).set i ((sidesP p)[i]'(by rw [Rg.sides_len]; exact h)) = part p (i + 1) := by
  have hs : i < (sidesP p).length := by rw [Rg.sides_len]; exact h
  have ht : ((sidesP p).take i).length = i := by rw [List.length_take]; omega
  unfold part
  rw [List.set_append_right _ _ (by omega), ht, Nat.sub_self, show p.length - i = (p.length - (i + 1)) + 1 by omega, List.replicate_succ, List.set_cons_zero, List.take_succ_eq_append_getElem hs, List.append_assoc]; rfl
theorem around_spec (x : Bool) (p : List Pt) (hp : p.length ≤ 1000) : pureCall E.P (L E) 46 [lst x (spanR.vals p)] = some (lst false (sideR.vals (sidesP p))) := by
  have ln : ∀ h, lenT .sl h (lst x (spanR.vals p)) = some (.int .i64 p.length) := fun h => Rec.tree_len
  have ix : ∀ (i : Nat) (hi : i < p.length), indexAddrT (.sl 84 ⟨some true, some 2⟩) (lst x (spanR.vals p)) (.int .i64 (i : Int)) = some (cptr (spanR.val p[i])) := fun i hi => Rec.index_tree rfl hi
  have mk := fun h => make_sides h p.length (by omega)
  rw [pureCall_fn F46 rfl]
  simp -implicitDefEqProofs [r46, p46, ln, mk]
  rw [LL_rec (α := Nat) 0 (fun i => [(10, .int .i64 (i : Int))]) (fun i => [sideR.mrow 116 (part p i)]) (fun _ => (.exit 0, [(10, undef)], [sideR.mrow 116 (sidesP p)])) (fun i => i ≤ p.length) (fun i => p.length - i)]
  · have rr := Rec.mreify (R := sideR) (P := E.P) (n := 7) (h := [sideR.mrow 116 (sidesP p)]) (b := 0) (t := 116) (l := sidesP p) rfl sS aS
    rw [Rec.msl_eq (d := List.replicate p.length zeroS) (by rw [Rg.sides_len, List.length_replicate])] at rr
    have rr' : reifyR E.P [sideR.mrow 116 (sidesP p)] (sideR.msl 0 (List.replicate p.length zeroS)) = some (lst false (sideR.vals (sidesP p))) := rr
    simp -implicitDefEqProofs [k46_3, rr']
  · exact Nat.zero_le _
  · simp -implicitDefEqProofs [k46_3]
  · rfl
  · intro nx i hi ih
    by_cases h : i < p.length
    · have h' : (i : Int) < (p.length : Int) := by omega
      have hm : (i + 1) % p.length < p.length := Nat.mod_lt _ (by omega)
      have i0 := ix i h
      have i1 := ix _ hm
      rw [span_val] at i0 i1
      have ih := ih (i + 1) (by omega) (by omega)
      have wi : IntKind.i64.wrap ((i : Int) + 1) = ((i + 1 : Nat) : Int) := (wrap64 (by omega) (by omega)).trans (by omega)
      have rm := rem_nat (P := E.P) (t := 3) (m := i + 1) (n := p.length) (by omega)
      have st := Rec.mstore (R := sideR) (n := 4) (h := [sideR.mrow 116 (part p i)]) (b := 0) (lo := 0) (t := 116) (l := part p i) (i := i) (a := (sidesP p)[i]'(by rw [Rg.sides_len]; exact h)) rfl rfl (Nat.le_refl _) (by rw [part_len hi]; exact h)
      rw [part_set h, Rg.sides_get h, side_val] at st
      have mi := Rec.mindex (R := sideR) (h0 := 4) (t := 116) (g := some true) (b := 0) (l := List.replicate p.length zeroS) (i := i) (k := .i64) rfl (by rw [List.length_replicate]; exact h)
      generalize p[(i + 1) % p.length] = b at i1 st
      clear hm
      generalize (i + 1) % p.length = j at i1 rm
      simp -implicitDefEqProofs [k46_3] at ih
      simp -implicitDefEqProofs [r46_3, k46_3, ln, h, h', i0, i1, wi, rm, b22, mi, st, trim_le, -Int.natCast_add]
      exact ih
    · have e : i = p.length := by omega
      subst e
      have ep : part p p.length = sidesP p := by
        unfold part
        rw [Nat.sub_self, List.replicate_zero, List.append_nil, List.take_of_length_le (by rw [Rg.sides_len]; exact Nat.le_refl _)]
      rw [ep]
      simp -implicitDefEqProofs [r46_3, k46_3, ln, trim_le]
end Go.Proofs.Ytjkemccfcabhgaa.Bm
namespace Go.Proofs.Ytjkemccfcabhgaa.Bm
open Go Go.RowKit
open Rg (Rect Pt sidesP upS crossB onB sd okI okJ crI crJ rightP allFr allFr_step allFr_end)
theorem ub7 : E.P.underlying 4 = some .bool := by kernel_rfl
theorem beq (p q : Bool) : aBin E.P .eql 4 (.bool p) (.bool q) = some (.bool (p == q)) := bin_eql_bool ub7
theorem side_index (p : List Pt) (j : Nat) (hj : j < p.length) : indexAddrT (.sl 116 ⟨some true, some 4⟩) (lst false (sideR.vals (sidesP p))) (.int .i64 (j : Int)) = some (cptr (sideR.val (sd p j))) := by
  have hs : j < (sidesP p).length := by rw [Rg.sides_len]; exact hj
  rw [Rg.sd_get hs]
  exact Rec.index_tree rfl hs
theorem sides_lenT (p : List Pt) (h : Heap) : lenT .sl h (lst false (sideR.vals (sidesP p))) = some (.int .i64 p.length) := by
  rw [Rec.tree_len, Rg.sides_len]
theorem pt_index (x : Bool) (p : List Pt) (j : Nat) (hj : j < p.length) : indexAddrT (.sl 84 ⟨some true, some 2⟩) (lst x (spanR.vals p)) (.int .i64 (j : Int)) = some (cptr (spanR.val (p.getD j (0, 0)))) := by
  have e : p.getD j (0, 0) = p[j] := by rw [List.getD_eq_getElem?_getD, List.getElem?_eq_getElem hj]; rfl
  rw [e]
  exact Rec.index_tree rfl hj
set_option maxHeartbeats 2000000 in
theorem pright_spec (x : Bool) (p : List Pt) (hp : p.length ≤ 1000000) : pureCall E.P (L E) 43 [lst x (spanR.vals p)] = some (.bool (rightP p)) := by
  have ln : ∀ h, lenT .sl h (lst x (spanR.vals p)) = some (.int .i64 p.length) := fun h => Rec.tree_len
  rw [pureCall_fn F43 rfl]
  by_cases h4 : p.length < 4
  · have h4' : (p.length : Int) < 4 := by omega
    have e : rightP p = false := by unfold rightP; rw [decide_eq_false (by omega)]; rfl
    rw [e]
    simp -implicitDefEqProofs [r43, p43, ln, h4, h4']
  by_cases h60 : 60 < p.length
  · have h60' : 60 < (p.length : Int) := by omega
    have h4' : ¬ ((p.length : Int) < 4) := by omega
    have e : rightP p = false := by unfold rightP; rw [decide_eq_false (show ¬ (p.length ≤ 60) by omega), Bool.and_false]; rfl
    rw [e]
    simp -implicitDefEqProofs [r43, p43, ln, h4, h4', h60, h60']
  have h4' : ¬ ((p.length : Int) < 4) := by omega
  have h60' : ¬ (60 < (p.length : Int)) := by omega
  have ar := around_spec x p (by omega)
  have sln := sides_lenT p
  have six := side_index p
  have pix := pt_index x p
  have hE : rightP p = (allFr (okI p) 0 p.length && (allFr (crI p) 0 p.length && !upS (sd p 0))) := by
    unfold rightP
    rw [decide_eq_true (show 4 ≤ p.length by omega), decide_eq_true (show p.length ≤ 60 by omega), Bool.true_and, Bool.true_and, Bool.and_assoc]
  rw [hE]
  clear hE
  generalize hSV : lst false (sideR.vals (sidesP p)) = SV at *
  generalize hPV : lst x (spanR.vals p) = PV at *
  have sv0 : settled depth PV = true := by rw [← hPV]; rfl
  simp -implicitDefEqProofs [r43, p43, ln, h4, h4', h60, h60', ret1 m46, sv0, ar, sln]
  rw [LL_rec (α := Nat) 0 (fun i => [(21, .int .i64 (i : Int))]) (fun _ => []) (fun i => if allFr (okI p) i (p.length - i) then (.exit 0, [(21, undef)], []) else (.ret, [(2, .bool false), (21, undef)], [])) (fun i => i ≤ p.length) (fun i => p.length - i)]
  · rw [Nat.sub_zero]
    cases hok : allFr (okI p) 0 p.length
    · simp -implicitDefEqProofs [k43_5, sln]
    simp -implicitDefEqProofs [k43_5, sln]
    rw [LL_rec (α := Nat) 0 (fun i => [(78, .int .i64 (i : Int))]) (fun _ => []) (fun i => if allFr (crI p) i (p.length - i) then (.exit 2, [(78, undef)], []) else (.ret, [(2, .bool false), (78, undef)], [])) (fun i => i ≤ p.length) (fun i => p.length - i)]
    · rw [Nat.sub_zero]
      have i0 := six 0 (by omega)
      rw [side_val] at i0
      have u0 := up_spec (sd p 0)
      generalize upS (sd p 0) = u at *
      cases hcr : allFr (crI p) 0 p.length
      · simp -implicitDefEqProofs [k43_14]
      · have i0' : indexAddrT (.sl 116 ⟨some true, some 4⟩) SV (.int .i64 0) = _ := i0
        simp -implicitDefEqProofs [k43_14, i0', ret0 m47, u0]
    · exact Nat.zero_le _
    · simp -implicitDefEqProofs [k43_14]
    · rfl
    · intro nx i hi ih
      by_cases h : i < p.length
      · have h' : (i : Int) < (p.length : Int) := by omega
        have ih := ih (i + 1) (by omega) (by omega)
        have wi : IntKind.i64.wrap ((i : Int) + 1) = (i : Int) + 1 := wrap64 (by omega) (by omega)
        have wi2 : IntKind.i64.wrap ((i : Int) + 2) = ((i + 2 : Nat) : Int) := (wrap64 (by omega) (by omega)).trans (by omega)
        have ii := six i h
        rw [side_val] at ii
        rw [allFr_step h]
        generalize hq : allFr (crI p) (i + 1) (p.length - (i + 1)) = q at ih ⊢
        have ecr : crI p i = allFr (crJ p i) (i + 2) (p.length - (i + 2)) := rfl
        rw [ecr]
        simp -implicitDefEqProofs [k43_14] at ih
        simp -implicitDefEqProofs [r43_14, k43_14, h, h', sln, wi2, -Int.natCast_add]
        rw [LL_rec (α := Nat) (i + 2) (fun k => [(8, .int .i64 (k : Int))]) (fun _ => []) (fun k => if allFr (crJ p i) k (p.length - k) then (.exit 4, [(8, undef)], []) else (.ret, [(2, .bool false), (8, undef)], [])) (fun k => i + 2 ≤ k) (fun k => p.length - k)]
        · cases allFr (crJ p i) (i + 2) (p.length - (i + 2))
          · simp -implicitDefEqProofs [k43_17, trim_le]
          · simp -implicitDefEqProofs [k43_17, wi, trim_le]
            exact ih
        · exact Nat.le_refl _
        · simp -implicitDefEqProofs [k43_17]
        · rfl
        · intro nx k hk ih
          by_cases hkn : k < p.length
          · have hkn' : (k : Int) < (p.length : Int) := by omega
            have ih := ih (k + 1) (by omega) (by omega)
            have wk : IntKind.i64.wrap ((k : Int) + 1) = (k : Int) + 1 := wrap64 (by omega) (by omega)
            have w1 : IntKind.i64.wrap ((i : Int) + (p.length : Int)) = (i : Int) + (p.length : Int) := wrap64 (by omega) (by omega)
            have w2 : IntKind.i64.wrap ((i : Int) + (p.length : Int) - (k : Int)) = (i : Int) + (p.length : Int) - (k : Int) := wrap64 (by omega) (by omega)
            have ik := six k hkn
            rw [side_val] at ik
            have cs := crosses_spec (sd p i) (sd p k)
            rw [allFr_step hkn]
            have ecj : crJ p i k = !(decide (1 < i + p.length - k) && crossB (sd p i) (sd p k)) := rfl
            rw [ecj]
            generalize crossB (sd p i) (sd p k) = cb at *
            generalize allFr (crJ p i) (k + 1) (p.length - (k + 1)) = qk at ih ⊢
            simp -implicitDefEqProofs [k43_17] at ih
            by_cases h1 : 1 < i + p.length - k
            · have h1' : 1 < (i : Int) + (p.length : Int) - (k : Int) := by omega
              cases cb
              · simp -implicitDefEqProofs [r43_17, k43_17, hkn, hkn', sln, w1, w2, h1, h1', ii, ik, ret0 m54, cs, wk, trim_le]
                exact ih
              · simp -implicitDefEqProofs [r43_17, k43_17, hkn, hkn', sln, w1, w2, h1, h1', ii, ik, ret0 m54, cs, wk, trim_le]
            · have h1' : ¬ (1 < (i : Int) + (p.length : Int) - (k : Int)) := by omega
              simp -implicitDefEqProofs [r43_17, k43_17, hkn, hkn', sln, w1, w2, h1, h1', ii, ik, wk, trim_le]
              exact ih
          · have hkn' : ¬ ((k : Int) < (p.length : Int)) := by omega
            rw [allFr_end (by omega)]
            simp -implicitDefEqProofs [r43_17, k43_17, hkn, hkn', sln, trim_le]
      · have h' : ¬ ((i : Int) < (p.length : Int)) := by omega
        rw [allFr_end (by omega)]
        simp -implicitDefEqProofs [r43_14, k43_14, h, h', sln, trim_le]
  · exact Nat.zero_le _
  · simp -implicitDefEqProofs [k43_5, sln]
  · rfl
  · intro nx i hi ih
    by_cases h : i < p.length
    · have h' : (i : Int) < (p.length : Int) := by omega
      have ih := ih (i + 1) (by omega) (by omega)
      have hm : (i + 1) % p.length < p.length := Nat.mod_lt _ (by omega)
      have wi : IntKind.i64.wrap ((i : Int) + 1) = ((i + 1 : Nat) : Int) := (wrap64 (by omega) (by omega)).trans (by omega)
      have rm := rem_nat (P := E.P) (t := 3) (m := i + 1) (n := p.length) (by omega)
      have ii := six i h
      have im := six _ hm
      have p0 := pix 0 (by omega)
      have p0' : indexAddrT (.sl 84 ⟨some true, some 2⟩) PV (.int .i64 0) = _ := p0
      have pI := pix i h
      rw [side_val] at ii im
      rw [span_val] at p0' pI
      have gs := grid_spec (sd p i).1
      have us := up_spec (sd p i)
      have un := up_spec (sd p ((i + 1) % p.length))
      have cp := compare_spec (p.getD 0 (0, 0)) (p.getD i (0, 0))
      have lt := cmpP_lt (p.getD 0 (0, 0)) (p.getD i (0, 0))
      rw [allFr_step h]
      have eok : okI p i = (onB (sd p i).1 && ((decide ((sd p i).1.1 = (sd p i).2.1) != decide ((sd p i).1.2 = (sd p i).2.2)) && (upS (sd p i) != upS (sd p ((i + 1) % p.length))) && (decide (i = 0) || Rg.ltP (p.getD 0 (0, 0)) (p.getD i (0, 0))))) := rfl
      rw [eok]
      clear p0 eok
      generalize hj : (i + 1) % p.length = j at *
      generalize p.getD 0 (0, 0) = a0 at *
      generalize p.getD i (0, 0) = ai at *
      generalize sd p i = s at *
      generalize sd p j = t at *
      obtain ⟨⟨sa, sb⟩, sc, se⟩ := s
      obtain ⟨⟨ta, tb⟩, tc, te⟩ := t
      generalize allFr (okI p) (i + 1) (p.length - (i + 1)) = qk at ih ⊢
      generalize cmpP a0 ai = cv at *
      generalize Rg.ltP a0 ai = lv at *
      generalize upS ((sa, sb), sc, se) = u1 at *
      generalize upS ((ta, tb), tc, te) = u2 at *
      simp only at ii im gs us un ⊢
      generalize onB (sa, sb) = g at *
      simp -implicitDefEqProofs [k43_5] at ih
      have bP : ∀ d n, below (d + 1) n PV = true := fun d n => by rw [← hPV]; rfl
      have bS : ∀ d n, below (d + 1) n SV = true := fun d n => by rw [← hSV]; rfl
      cases g
      · simp -implicitDefEqProofs [r43_5, k43_5, h, h', sln, ii, im, wi, rm, ret0 m52, gs, bP, bS, trim_cut, -Int.natCast_add]
      by_cases q1 : sa = sc
      · subst q1
        by_cases q2 : sb = se
        · subst q2
          simp -implicitDefEqProofs [r43_5, k43_5, h, h', sln, ii, im, wi, rm, ret0 m52, gs, beq, ret0 m47, us, un, bP, bS, trim_cut, -Int.natCast_add]
        · cases u1 <;> cases u2
          · simp -implicitDefEqProofs [r43_5, k43_5, h, h', sln, ii, im, wi, rm, ret0 m52, gs, beq, ret0 m47, us, un, q2, bP, bS, trim_cut, -Int.natCast_add]
          · by_cases i0 : i = 0
            · rw [decide_eq_true i0]
              have ip : ¬ (0 < (i : Int)) := by omega
              have ipn : ¬ (0 < i) := by omega
              simp -implicitDefEqProofs [r43_5, k43_5, h, h', sln, ii, im, wi, rm, ret0 m52, gs, beq, ret0 m47, us, un, q2, ip, ipn, bP, bS, trim_cut, -Int.natCast_add]
              exact ih
            · rw [decide_eq_false i0]
              have ip : 0 < (i : Int) := by omega
              have ipn : 0 < i := by omega
              cases lv
              · have c0 : 0 ≤ cv := by by_cases z : cv < 0; exact absurd (lt.1 z) (by decide); omega
                simp -implicitDefEqProofs [r43_5, k43_5, h, h', sln, ii, im, wi, rm, ret0 m52, gs, beq, ret0 m47, us, un, q2, ip, ipn, p0', pI, ret0 m53, cp, c0, bP, bS, trim_cut, -Int.natCast_add]
              · have c0 : ¬ (0 ≤ cv) := by have := lt.2 rfl; omega
                simp -implicitDefEqProofs [r43_5, k43_5, h, h', sln, ii, im, wi, rm, ret0 m52, gs, beq, ret0 m47, us, un, q2, ip, ipn, p0', pI, ret0 m53, cp, c0, bP, bS, trim_cut, -Int.natCast_add]
                exact ih
          · by_cases i0 : i = 0
            · rw [decide_eq_true i0]
              have ip : ¬ (0 < (i : Int)) := by omega
              have ipn : ¬ (0 < i) := by omega
              simp -implicitDefEqProofs [r43_5, k43_5, h, h', sln, ii, im, wi, rm, ret0 m52, gs, beq, ret0 m47, us, un, q2, ip, ipn, bP, bS, trim_cut, -Int.natCast_add]
              exact ih
            · rw [decide_eq_false i0]
              have ip : 0 < (i : Int) := by omega
              have ipn : 0 < i := by omega
              cases lv
              · have c0 : 0 ≤ cv := by by_cases z : cv < 0; exact absurd (lt.1 z) (by decide); omega
                simp -implicitDefEqProofs [r43_5, k43_5, h, h', sln, ii, im, wi, rm, ret0 m52, gs, beq, ret0 m47, us, un, q2, ip, ipn, p0', pI, ret0 m53, cp, c0, bP, bS, trim_cut, -Int.natCast_add]
              · have c0 : ¬ (0 ≤ cv) := by have := lt.2 rfl; omega
                simp -implicitDefEqProofs [r43_5, k43_5, h, h', sln, ii, im, wi, rm, ret0 m52, gs, beq, ret0 m47, us, un, q2, ip, ipn, p0', pI, ret0 m53, cp, c0, bP, bS, trim_cut, -Int.natCast_add]
                exact ih
          · simp -implicitDefEqProofs [r43_5, k43_5, h, h', sln, ii, im, wi, rm, ret0 m52, gs, beq, ret0 m47, us, un, q2, bP, bS, trim_cut, -Int.natCast_add]
      · by_cases q2 : sb = se
        · subst q2
          cases u1 <;> cases u2
          · simp -implicitDefEqProofs [r43_5, k43_5, h, h', sln, ii, im, wi, rm, ret0 m52, gs, beq, ret0 m47, us, un, q1, bP, bS, trim_cut, -Int.natCast_add]
          · by_cases i0 : i = 0
            · rw [decide_eq_true i0]
              have ip : ¬ (0 < (i : Int)) := by omega
              have ipn : ¬ (0 < i) := by omega
              simp -implicitDefEqProofs [r43_5, k43_5, h, h', sln, ii, im, wi, rm, ret0 m52, gs, beq, ret0 m47, us, un, q1, ip, ipn, bP, bS, trim_cut, -Int.natCast_add]
              exact ih
            · rw [decide_eq_false i0]
              have ip : 0 < (i : Int) := by omega
              have ipn : 0 < i := by omega
              cases lv
              · have c0 : 0 ≤ cv := by by_cases z : cv < 0; exact absurd (lt.1 z) (by decide); omega
                simp -implicitDefEqProofs [r43_5, k43_5, h, h', sln, ii, im, wi, rm, ret0 m52, gs, beq, ret0 m47, us, un, q1, ip, ipn, p0', pI, ret0 m53, cp, c0, bP, bS, trim_cut, -Int.natCast_add]
              · have c0 : ¬ (0 ≤ cv) := by have := lt.2 rfl; omega
                simp -implicitDefEqProofs [r43_5, k43_5, h, h', sln, ii, im, wi, rm, ret0 m52, gs, beq, ret0 m47, us, un, q1, ip, ipn, p0', pI, ret0 m53, cp, c0, bP, bS, trim_cut, -Int.natCast_add]
                exact ih
          · by_cases i0 : i = 0
            · rw [decide_eq_true i0]
              have ip : ¬ (0 < (i : Int)) := by omega
              have ipn : ¬ (0 < i) := by omega
              simp -implicitDefEqProofs [r43_5, k43_5, h, h', sln, ii, im, wi, rm, ret0 m52, gs, beq, ret0 m47, us, un, q1, ip, ipn, bP, bS, trim_cut, -Int.natCast_add]
              exact ih
            · rw [decide_eq_false i0]
              have ip : 0 < (i : Int) := by omega
              have ipn : 0 < i := by omega
              cases lv
              · have c0 : 0 ≤ cv := by by_cases z : cv < 0; exact absurd (lt.1 z) (by decide); omega
                simp -implicitDefEqProofs [r43_5, k43_5, h, h', sln, ii, im, wi, rm, ret0 m52, gs, beq, ret0 m47, us, un, q1, ip, ipn, p0', pI, ret0 m53, cp, c0, bP, bS, trim_cut, -Int.natCast_add]
              · have c0 : ¬ (0 ≤ cv) := by have := lt.2 rfl; omega
                simp -implicitDefEqProofs [r43_5, k43_5, h, h', sln, ii, im, wi, rm, ret0 m52, gs, beq, ret0 m47, us, un, q1, ip, ipn, p0', pI, ret0 m53, cp, c0, bP, bS, trim_cut, -Int.natCast_add]
                exact ih
          · simp -implicitDefEqProofs [r43_5, k43_5, h, h', sln, ii, im, wi, rm, ret0 m52, gs, beq, ret0 m47, us, un, q1, bP, bS, trim_cut, -Int.natCast_add]
        · simp -implicitDefEqProofs [r43_5, k43_5, h, h', sln, ii, im, wi, rm, ret0 m52, gs, beq, ret0 m47, us, un, q1, q2, bP, bS, trim_cut, -Int.natCast_add]
    · have h' : ¬ ((i : Int) < (p.length : Int)) := by omega
      rw [allFr_end (by omega)]
      simp -implicitDefEqProofs [r43_5, k43_5, h, h', sln, trim_le]
end Go.Proofs.Ytjkemccfcabhgaa.Bm
namespace Go.Proofs.Ytjkemccfcabhgaa.Bm
open Go Go.RowKit
open Rg (Rect scan scan_le putAt insN sortU edgesX)
theorem g3 : aggT E.P 3 = some false := by kernel_rfl
theorem int_sl {b : Nat} {c d : List Int} (h : c.length = d.length) : intR.sl b c = intR.sl b d := by unfold Rec.sl; rw [h]
theorem int_index {g : Option Bool} {b : Nat} {l : List Int} {i : Nat} (h1 : i < l.length) : indexAddrT (.sl 3 ⟨g, some 1⟩) (intR.sl b l) (.int .i64 (i : Int)) = some (intR.at_ b l i 0) := Rec.index_row (R := intR) rfl h1
theorem int_load {h : Heap} {b : Nat} {l : List Int} {i : Nat} {sz : Option Nat} (hob : h[b]? = some (intR.row 3 l)) (h1 : i < l.length) : loadT ⟨some false, sz⟩ h (intR.at_ b l i 0) = some (.int .i64 l[i]) := Rec.load_cell (R := intR) (j := 0) hob h1 (by decide)
theorem lit_num (h : Heap) (z : Int) : buildSliceT (some ⟨3, 1, 8, .int .i64 0, ⟨some false, some 1⟩⟩) false h 1 #[(0, .int .i64 z)] = some (lst true [.int .i64 z], h) :=
  (build_lit' (n := 1) (l := [(0, .int .i64 z)]) rfl rfl (by decide) (by decide) (by decide)).trans rfl
theorem app_num {h : Heap} {b lo : Nat} {c : List Int} (z : Int) (hob : h[b]? = some (intR.row 3 c)) (hlo : lo ≤ b) (hc : c.length ≤ 1000000) :
    appendT (some ⟨3, 1, 8, .int .i64 0, ⟨some false, some 1⟩⟩) h lo false (intR.sl b c) (lst true [.int .i64 z]) = some (intR.sl b (c ++ [z]), h.set b (intR.row 3 (c ++ [z]))) :=
  Rec.app (R := intR) (m := [z]) rfl hob (cells_lst (by rfl)) hlo (by show (c.length + 1) * 8 ≤ 2 ^ 47; omega)
end Go.Proofs.Ytjkemccfcabhgaa.Bm
namespace Go.Proofs.Ytjkemccfcabhgaa.Bm
open Go Go.RowKit
open Rg (Rect Slab Pt sidesP upS hB ysP colY polyL rightP sortU stripL outT emit pairs ends)
def polyX (p : List Pt) : Except Int (List Rect) := if rightP p then (if 200 < (polyL p).length then .error 6 else .ok (polyL p)) else .error 10
theorem ends_even7 : ∀ {c : List (Int × Int)} {j : Nat} (hj : j < c.length), (ends c)[2 * j]? = some c[j].1 ∧ (ends c)[2 * j + 1]? = some c[j].2
  | [], j, hj => by simp at hj
  | s :: c, 0, _ => ⟨rfl, rfl⟩
  | s :: c, j + 1, hj => ends_even7 (c := c) (j := j) (by simpa using hj)
theorem ends_at7 {c : List (Int × Int)} {j : Nat} (hj : j < c.length) : ∃ (h1 : 2 * j < (ends c).length) (h2 : 2 * j + 1 < (ends c).length), (ends c)[2 * j] = c[j].1 ∧ (ends c)[2 * j + 1] = c[j].2 := by
  have hl := Rg.ends_len c
  obtain ⟨e1, e2⟩ := ends_even7 hj
  refine ⟨by omega, by omega, ?_, ?_⟩
  · rw [List.getElem?_eq_getElem (by omega)] at e1; exact Option.some.inj e1
  · rw [List.getElem?_eq_getElem (by omega)] at e2; exact Option.some.inj e2
theorem emit_cons7 (x0 x1 : Int) (s : Int × Int) (c : List (Int × Int)) : emit ⟨x0, x1, s :: c⟩ = [⟨x0, s.1, x1, s.2⟩] ++ emit ⟨x0, x1, c⟩ := rfl
theorem strip_step {c : Int → List (Int × Int)} {U : List Int} {i : Nat} (h : i + 1 < U.length) : outT (stripL c (U.drop i)) = emit ⟨U[i], U[i + 1], c U[i]⟩ ++ outT (stripL c (U.drop (i + 1))) := by
  rw [List.drop_eq_getElem_cons (show i < U.length by omega), List.drop_eq_getElem_cons h]; rfl
theorem strip_end {c : Int → List (Int × Int)} {U : List Int} {i : Nat} (h : ¬ i + 1 < U.length) : outT (stripL c (U.drop i)) = [] := by
  have hl : (U.drop i).length ≤ 1 := by rw [List.length_drop]; omega
  match U.drop i, hl with
  | [], _ => rfl
  | [_], _ => rfl
theorem hB_up {x : Int} {s : Pt × Pt} (h : upS s = true) : hB x s = false := by
  unfold upS at h
  rw [decide_eq_true_eq] at h
  cases q : hB x s
  · rfl
  · rw [Rg.hB_iff] at q; omega
set_option maxHeartbeats 4000000 in
theorem pregion_spec (x : Bool) (p : List Pt) (hp : p.length ≤ 1000000) : pureCall E.P (L E) 34 [lst x (spanR.vals p)] = some (resL (polyX p)) := by
  have ln : ∀ h, lenT .sl h (lst x (spanR.vals p)) = some (.int .i64 p.length) := fun h => Rec.tree_len
  have hR := pright_spec x p hp
  have rf : ∀ h, reify E.P 8 h (lst x (spanR.vals p)) = some (lst x (spanR.vals p)) := fun _ => rfl
  have sv0 : settled depth (lst x (spanR.vals p)) = true := rfl
  have bP : ∀ d n, below (d + 1) n (lst x (spanR.vals p)) = true := fun d n => rfl
  have pix : ∀ (j : Nat) (hj : j < p.length), indexAddrT (.sl 84 ⟨some true, some 2⟩) (lst x (spanR.vals p)) (.int .i64 (j : Int)) = some (cptr (spanR.val p[j])) := fun j hj => Rec.index_tree rfl hj
  rw [pureCall_fn F34 rfl]
  unfold polyX
  generalize hPV : lst x (spanR.vals p) = PV at *
  cases hr : rightP p
  · rw [hr] at hR
    simp -implicitDefEqProofs [r34, p34, ret0 m43, rf, hR, resL]
  rw [hr] at hR
  obtain ⟨hp4, hp60⟩ := Rg.rightP_len hr
  simp -implicitDefEqProofs [r34, p34, ret0 m43, rf, hR, prep_new, newK_nil s3, ln]
  rw [LL_for (γ := List Int) p [] (fun i c => [(4, intR.sl 0 c), (19, .int .i64 i)]) (fun _ c => [intR.row 3 c])
    (fun _ rest c => (.exit 0, [(4, intR.sl 0 (c ++ rest.map (·.1))), (19, undef)], [intR.row 3 (c ++ rest.map (·.1))])) (fun i c => c.length = i) (by omega) rfl]
  · rw [List.nil_append]
    have hxl : (p.map (·.1)).length = p.length := List.length_map _
    have hU : (sortU (p.map (·.1))).length ≤ p.length := by
      have := Rg.sortU_le (p.map (·.1)); omega
    have so := sortInts (h := [intR.row 3 (p.map (·.1))]) (b := 0) (lo := 0) (d := p.map (·.1)) rfl (Nat.le_refl _) (by omega)
    obtain ⟨r, co, hrl⟩ := compInts (h := [intR.row 3 (sortI (p.map (·.1)))]) (b := 0) (lo := 0) (d := sortI (p.map (·.1))) rfl (Nat.le_refl _) (by rw [sortI_len]; omega)
    rw [Rg.comp_sort] at co hrl
    have e1 : intR.sl 0 (sortI (p.map (·.1))) = intR.sl 0 (p.map (·.1)) := by unfold Rec.sl; rw [sortI_len]
    rw [e1, sortI_len, hxl] at co
    rw [sortI_len, hxl] at hrl
    have ar : pureCall E.P (L E) 46 [PV] = some (lst false (sideR.vals (sidesP p))) := by rw [← hPV]; exact around_spec x p (by omega)
    have sln := sides_lenT p
    have bS : ∀ d n, below (d + 1) n (lst false (sideR.vals (sidesP p))) = true := fun d n => rfl
    have six : ∀ (j : Nat) (hj : j < (sidesP p).length), indexAddrT (.sl 116 ⟨some true, some 4⟩) (lst false (sideR.vals (sidesP p))) (.int .i64 (j : Int)) = some (cptr (sideR.val (sidesP p)[j])) := fun j hj => Rec.index_tree rfl hj
    have hsl := Rg.sides_len p
    have ePL : polyL p = outT (stripL (colY p) (sortU (p.map (·.1)))) := rfl
    rw [ePL]
    have hev : ∀ x, (sortI (ysP p x)).length % 2 = 0 := fun x => by rw [sortI_len]; exact Rg.ys_even p x
    have hyl : ∀ x, (ysP p x).length ≤ p.length := fun x => Rg.ys_len p x
    have wl : IntKind.i64.wrap (((sortU (p.map (·.1))).length : Int) - 1) = ((sortU (p.map (·.1))).length : Int) - 1 := wrap64 (by omega) (by omega)
    simp -implicitDefEqProofs [k34_5, wl, ret2 (E := E) (f := 44) rfl, ret2 (E := E) (f := 45) rfl, so, co, ret1 m46, sv0, ar, prep_new, newK_nil s32, pre_len]
    generalize hSV : lst false (sideR.vals (sidesP p)) = SV at *
    generalize sortU (p.map (·.1)) = U at *
    clear so co e1 ePL hxl hR
    rw [LL_rec (α := Nat × List Rect) (0, []) (fun c => [(8, rectR.sl 1 c.2), (38, .int .i64 (c.1 : Int))]) (fun c => [intR.row 3 (U ++ r), rectR.row 60 c.2])
      (fun c => (.exit 2, [(8, rectR.sl 1 (c.2 ++ outT (stripL (colY p) (U.drop c.1)))), (38, undef)], [intR.row 3 (U ++ r), rectR.row 60 (c.2 ++ outT (stripL (colY p) (U.drop c.1)))])) (fun c => c.1 ≤ U.length ∧ c.2.length ≤ 100 * c.1) (fun c => U.length - c.1)]
    · rw [List.drop_zero, List.nil_append]
      generalize outT (stripL (colY p) U) = F
      have rr := Rec.reify_row (R := rectR) (P := E.P) (h := [intR.row 3 (U ++ r), rectR.row 60 F]) (b := 1) (n := 7) (t := 60) (l := F) rfl s32 a32
      by_cases h2 : 200 < F.length
      · have h2' : 200 < (F.length : Int) := by omega
        simp -implicitDefEqProofs [k34_14, Rec.sl_len, h2, h2', resL]
      · have h2' : ¬ (200 < (F.length : Int)) := by omega
        simp -implicitDefEqProofs [k34_14, Rec.sl_len, h2, h2', rr, resL]
    · exact ⟨Nat.zero_le _, Nat.zero_le _⟩
    · simp -implicitDefEqProofs [k34_14, Rec.sl_nil]
    · rfl
    · intro nx c hc ih
      obtain ⟨i, o⟩ := c
      obtain ⟨h1, h2⟩ := hc
      simp only at h1 h2
      by_cases hi : i + 1 < U.length
      · have hi' : (i : Int) < (U.length : Int) - 1 := by omega
        have wi : IntKind.i64.wrap ((i : Int) + 1) = ((i + 1 : Nat) : Int) := (wrap64 (by omega) (by omega)).trans (by omega)
        have px := pre_index (t := 3) (g := some false) (b := 0) (n := p.length) (k := .i64) (e := U) (i := i) (by omega)
        have px1 := pre_index (t := 3) (g := some false) (b := 0) (n := p.length) (k := .i64) (e := U) hi
        have pl := fun a b => pre_load (h := [intR.row 3 (U ++ r), a, b]) (b := 0) (n := p.length) (sz := some 1) (e := U) (i := i) rfl hrl (by omega)
        have pl2 := fun a b c => pre_load (h := [intR.row 3 (U ++ r), a, b, c]) (b := 0) (n := p.length) (sz := some 1) (e := U) (i := i) rfl hrl (by omega)
        have pl1 := fun a b => pre_load (h := [intR.row 3 (U ++ r), a, b]) (b := 0) (n := p.length) (sz := some 1) (e := U) rfl hrl hi
        have hcl : 2 * (colY p U[i]).length ≤ p.length := Rg.colY_len p U[i]
        have ih := ih (i + 1, o ++ emit ⟨U[i], U[i + 1], colY p U[i]⟩) (by show U.length - (i + 1) < U.length - i; omega) ⟨by show i + 1 ≤ U.length; omega, by
          show (o ++ emit ⟨U[i], U[i + 1], colY p U[i]⟩).length ≤ 100 * (i + 1)
          have e : (emit ⟨U[i], U[i + 1], colY p U[i]⟩).length = (colY p U[i]).length := List.length_map _
          rw [List.length_append, e]; omega⟩
        rw [strip_step hi, ← List.append_assoc]
        have ecol : colY p U[i] = pairs (sortI (ysP p U[i])) := rfl
        have eys : ysP p U[i] = ((sidesP p).filter (hB U[i])).map (fun s => s.1.2) := rfl
        have hev := hev U[i]
        have hyl := hyl U[i]
        have ee := Rg.ends_pairs hev
        rw [ecol] at ih ⊢
        generalize hx0 : U[i] = x0 at *
        generalize hx1 : U[i + 1] = x1 at *
        generalize outT (stripL (colY p) (U.drop (i + 1))) = F at *
        simp -implicitDefEqProofs [k34_14, -List.append_assoc] at ih
        simp -implicitDefEqProofs [r34_14, k34_14, pre_len, wl, hi, hi', prep_new, newK_nil s3, sln, -List.append_assoc]
        rw [LL_for (γ := List Int) (sidesP p) [] (fun j c => [(10, intR.sl 2 c), (43, .int .i64 j)]) (fun _ c => [intR.row 3 (U ++ r), rectR.row 60 o, intR.row 3 c])
          (fun _ rest c => (.exit 4, [(10, intR.sl 2 (c ++ (rest.filter (hB x0)).map (fun s => s.1.2))), (43, undef)], [intR.row 3 (U ++ r), rectR.row 60 o, intR.row 3 (c ++ (rest.filter (hB x0)).map (fun s => s.1.2))])) (fun j c => c.length ≤ j) (by omega) (Nat.le_refl _)]
        · rw [List.nil_append, ← eys]
          have so2 := sortInts (h := [intR.row 3 (U ++ r), rectR.row 60 o, intR.row 3 (ysP p x0)]) (b := 2) (lo := 0) (d := ysP p x0) rfl (Nat.zero_le _) (by omega)
          have hLl : (sortI (ysP p x0)).length = (ysP p x0).length := sortI_len _
          have esl : intR.sl 2 (sortI (ysP p x0)) = intR.sl 2 (ysP p x0) := int_sl hLl
          generalize ysP p x0 = Y at *
          generalize sortI Y = Lq at *
          have hel := Rg.ends_len (pairs Lq)
          rw [ee] at hel
          have ixL := fun (j : Nat) (hj : j < Lq.length) => int_index (g := some false) (b := 2) (l := Lq) hj
          rw [esl] at ixL
          simp -implicitDefEqProofs [k34_18, ret2 (E := E) (f := 44) rfl, so2, -List.append_assoc]
          rw [LL_for (γ := List Rect) (pairs Lq) o (fun j o' => [(8, rectR.sl 1 o'), (13, .int .i64 ((2 * j : Nat) : Int))]) (fun _ o' => [intR.row 3 (U ++ r), rectR.row 60 o', intR.row 3 Lq])
            (fun _ rest o' => (.exit 6, [(8, rectR.sl 1 (o' ++ emit ⟨x0, x1, rest⟩)), (13, undef)], [intR.row 3 (U ++ r), rectR.row 60 (o' ++ emit ⟨x0, x1, rest⟩), intR.row 3 Lq])) (fun j o' => o'.length = o.length + j) (by omega) rfl]
          · simp -implicitDefEqProofs [k34_25, wi, trim_cut, bP, bS, Rec.sl_bel, Rec.row_bel, pre_bel, -List.append_assoc, -Int.natCast_add]
            exact ih
          · simp -implicitDefEqProofs [k34_25]
          · rfl
          · intro nx j o' hj _
            have w2 : IntKind.i64.wrap (((2 * j : Nat) : Int) + 1) = ((2 * j + 1 : Nat) : Int) := wrap64 (by omega) (by omega)
            have hjn : ¬ (((2 * j + 1 : Nat) : Int) < (Y.length : Int)) := by omega
            have hjn' : ¬ (2 * j + 1 < Y.length) := by omega
            have e0 : emit ⟨x0, x1, []⟩ = [] := rfl
            simp -implicitDefEqProofs [r34_25, k34_25, Rec.sl_len, w2, hjn, hjn', e0, trim_le, -Int.natCast_add, -Int.natCast_mul]
          · intro nx j s rest o' hj hv hd hw ho ih
            obtain ⟨g1, g2, g3, g4⟩ := ends_at7 hj
            simp only [ee] at g1 g2 g3 g4
            rw [hv] at g3 g4
            have st := app_rect (h := [intR.row 3 (U ++ r), rectR.row 60 o', intR.row 3 Lq]) (b := 1) (lo := 0) (c := o') ⟨x0, s.1, x1, s.2⟩ rfl (Nat.zero_le _) (by omega)
            have w2 : IntKind.i64.wrap (((2 * j : Nat) : Int) + 1) = ((2 * j + 1 : Nat) : Int) := wrap64 (by omega) (by omega)
            have w3 : IntKind.i64.wrap (((2 * j : Nat) : Int) + 2) = ((2 * (j + 1) : Nat) : Int) := (wrap64 (by omega) (by omega)).trans (by omega)
            have hjn : ((2 * j + 1 : Nat) : Int) < (Y.length : Int) := by omega
            have hjn' : 2 * j + 1 < Y.length := by omega
            have ixa := ixL (2 * j) g1
            have ixb := ixL (2 * j + 1) g2
            have lda := int_load (h := [intR.row 3 (U ++ r), rectR.row 60 o', intR.row 3 Lq]) (b := 2) (l := Lq) (i := 2 * j) (sz := some 1) rfl g1
            have ldb := int_load (h := [intR.row 3 (U ++ r), rectR.row 60 o', intR.row 3 Lq]) (b := 2) (l := Lq) (i := 2 * j + 1) (sz := some 1) rfl g2
            rw [g3] at lda
            rw [g4] at ldb
            have ih := ih (o' ++ [⟨x0, s.1, x1, s.2⟩]) (by rw [List.length_append]; show o'.length + 1 = _; omega)
            rw [emit_cons7, ← List.append_assoc]
            simp -implicitDefEqProofs [k34_25, -List.append_assoc, -Int.natCast_add, -Int.natCast_mul] at ih
            simp -implicitDefEqProofs [r34_25, k34_25, Rec.sl_len, wi, w2, w3, hjn, hjn', px, pl, px1, pl1, ixa, ixb, lda, ldb, b4_all, lit_rect, st, trim_le, -List.append_assoc, -Int.natCast_add, -Int.natCast_mul]
            exact ih
        · simp -implicitDefEqProofs [k34_18, Rec.sl_nil]
        · rfl
        · intro nx j c hj _
          simp -implicitDefEqProofs [r34_18, k34_18, hj, sln, hsl, trim_le]
        · intro nx j s rest c hj hv hd hw hc ih
          have sj := six j hj
          rw [hv, side_val] at sj
          have us := up_spec s
          have hjp : j < p.length := by omega
          have ap := fun q => app_num (h := [intR.row 3 (U ++ r), rectR.row 60 o, intR.row 3 c, q]) (b := 2) (lo := 0) (c := c) s.1.2 rfl (Nat.zero_le _) (by omega)
          cases hu : upS s
          · rw [hu] at us
            by_cases m1 : min s.1.1 s.2.1 ≤ x0
            · by_cases m2 : x0 < max s.1.1 s.2.1
              · have ih := ih (c ++ [s.1.2]) (by simp; omega)
                rw [List.filter_cons_of_pos (Rg.hB_iff.2 ⟨m1, m2⟩), List.map_cons, show c ++ s.1.2 :: (rest.filter (hB x0)).map (fun s => s.1.2) = c ++ [s.1.2] ++ (rest.filter (hB x0)).map (fun s => s.1.2) by rw [List.append_assoc]; rfl]
                simp -implicitDefEqProofs [k34_18, -List.append_assoc] at ih
                simp -implicitDefEqProofs [r34_18, k34_18, hj, hjp, sln, hsl, sj, ret0 m47, us, px, pl2, min_int, max_int, m1, m2, lit_num, ap, hw, trim_cut, bP, bS, Rec.sl_bel, Rec.row_bel, pre_bel, -List.append_assoc]
                exact ih
              · have ih := ih c (by omega)
                rw [List.filter_cons_of_neg (by rw [Rg.hB_iff]; omega)]
                simp -implicitDefEqProofs [k34_18, -List.append_assoc] at ih
                simp -implicitDefEqProofs [r34_18, k34_18, hj, hjp, sln, hsl, sj, ret0 m47, us, px, pl2, min_int, max_int, m1, m2, hw, trim_cut, bP, bS, Rec.sl_bel, Rec.row_bel, pre_bel, -List.append_assoc]
                exact ih
            · have ih := ih c (by omega)
              rw [List.filter_cons_of_neg (by rw [Rg.hB_iff]; omega)]
              simp -implicitDefEqProofs [k34_18, -List.append_assoc] at ih
              simp -implicitDefEqProofs [r34_18, k34_18, hj, hjp, sln, hsl, sj, ret0 m47, us, px, pl2, min_int, max_int, m1, hw, trim_cut, bP, bS, Rec.sl_bel, Rec.row_bel, pre_bel, -List.append_assoc]
              exact ih
          · rw [hu] at us
            have ih := ih c (by omega)
            rw [List.filter_cons_of_neg (by rw [hB_up hu]; decide)]
            simp -implicitDefEqProofs [k34_18, -List.append_assoc] at ih
            simp -implicitDefEqProofs [r34_18, k34_18, hj, hjp, sln, hsl, sj, ret0 m47, us, px, pl2, min_int, max_int, hw, trim_cut, bP, bS, Rec.sl_bel, Rec.row_bel, pre_bel, -List.append_assoc]
            exact ih
      · have hi' : ¬ ((i : Int) < (U.length : Int) - 1) := by omega
        rw [strip_end hi, List.append_nil]
        simp -implicitDefEqProofs [r34_14, k34_14, pre_len, wl, hi, hi', trim_le]
  · simp -implicitDefEqProofs [k34_5, Rec.sl_nil]
  · rfl
  · intro nx i c hi _
    simp -implicitDefEqProofs [r34_5, k34_5, hi, ln, trim_le]
  · intro nx i v rest c hi hv hd hw hc ih
    have pi := pix i hi
    rw [hv, span_val] at pi
    have ap := fun q => app_num (h := [intR.row 3 c, q]) (b := 0) (lo := 0) (c := c) v.1 rfl (Nat.le_refl _) (by omega)
    have ih := ih (c ++ [v.1]) (by simp; omega)
    have em : (v :: rest).map (·.1) = [v.1] ++ rest.map (·.1) := rfl
    rw [em, ← List.append_assoc]
    simp -implicitDefEqProofs [k34_5, -List.append_assoc] at ih
    simp -implicitDefEqProofs [r34_5, k34_5, hi, ln, pi, lit_num, ap, hw, trim_cut, bP, Rec.sl_bel, Rec.row_bel, -List.append_assoc]
    exact ih
end Go.Proofs.Ytjkemccfcabhgaa.Bm
namespace Go.Proofs.Ytjkemccfcabhgaa.Rg
def capR (r s : Rect) : Rect := ⟨max r.x0 s.x0, max r.y0 s.y0, min r.x1 s.x1, min r.y1 s.y1⟩
def meetB (r s : Rect) : Bool := decide (max r.x0 s.x0 < min r.x1 s.x1) && decide (max r.y0 s.y0 < min r.y1 s.y1)
def capA (r s : Rect) : Int := if meetB r s then (capR r s).area else 0
theorem meet_iff {r s : Rect} : meetB r s = true ↔ max r.x0 s.x0 < min r.x1 s.x1 ∧ max r.y0 s.y0 < min r.y1 s.y1 := by
  unfold meetB; rw [Bool.and_eq_true, decide_eq_true_eq, decide_eq_true_eq]
def comR (r : Rect) : List Rect → Int
  | [] => 0
  | s :: l => capA r s + comR r l
def comA : List Rect → List Rect → Int
  | [], _ => 0
  | r :: a, b => comR r b + comA a b
def leP (p q : Pt) : Prop := p.1 < q.1 ∨ (p.1 = q.1 ∧ p.2 ≤ q.2)
def corn (r s : Rect) : Pt := ((capR r s).x0, (capR r s).y0)
def stepP (r : Rect) (p : Pt) (s : Rect) : Pt := if meetB r s && ltP (corn r s) p then corn r s else p
def rowP (r : Rect) (p : Pt) (b : List Rect) : Pt := b.foldl (stepP r) p
def comP : List Rect → List Rect → Pt → Pt
  | [], _, p => p
  | r :: a, b, p => comP a b (rowP r p b)
structure Least (S : Int → Int → Bool) (p : Pt) : Prop where
  has : S p.1 p.2 = true
  le : ∀ x y, S x y = true → leP p (x, y)
theorem Least.congr {S T : Int → Int → Bool} {p : Pt} (h : Least S p) (e : ∀ x y, S x y = T x y) : Least T p := ⟨by rw [← e]; exact h.has, fun x y q => h.le x y (by rw [e]; exact q)⟩
end Go.Proofs.Ytjkemccfcabhgaa.Rg
namespace Go.Proofs.Ytjkemccfcabhgaa.Rg
structure Zn where
  nm : ByteArray
  ov : Bool
  cs : List Pt
end Go.Proofs.Ytjkemccfcabhgaa.Rg
namespace Go.Proofs.Ytjkemccfcabhgaa.Rg
end Go.Proofs.Ytjkemccfcabhgaa.Rg
namespace Go.Proofs.Ytjkemccfcabhgaa.Bm
open Go Go.RowKit
open Rg (Rect Pt rightP polyL capR meetB capA comR comA corn stepP rowP comP ltP)
theorem cap_ok {r s : Rect} (hr : okR r = true) (hs : okR s = true) : okR (capR r s) = meetB r s := by
  rw [okR_iff] at hr hs
  rw [Bool.eq_iff_iff, okR_iff, Rg.meet_iff]
  unfold Rg.Rect.inBox capR at *
  simp only
  omega
theorem intersect_spec (r s : Rect) (hr : okR r = true) (hs : okR s = true) : pureCall E.P (L E) 36 [rectR.val r, rectR.val s] = some (.tuple ⟨[if meetB r s then rectR.val (capR r s) else rectR.val zeroR, .bool (meetB r s)]⟩) := by
  have h1 := right_s r
  have h2 := right_s s
  have h3 := checked_s (capR r s)
  rw [hr] at h1
  rw [hs] at h2
  rw [cap_ok hr hs] at h3
  have e : capR r s = ⟨max r.x0 s.x0, max r.y0 s.y0, min r.x1 s.x1, min r.y1 s.y1⟩ := rfl
  rw [pureCall_fn F36 rfl]
  rw [rect_val, rect_val]
  rw [e] at h3 ⊢
  cases hm : meetB r s
  · rw [hm] at h3
    simp -implicitDefEqProofs [r36, padS, ret0 m42, h1, h2, min_int, max_int, b4_all, ret0 m48, h3, rect_val]
  · rw [hm] at h3
    simp -implicitDefEqProofs [r36, padS, ret0 m42, h1, h2, min_int, max_int, b4_all, ret0 m48, h3, rect_val]
end Go.Proofs.Ytjkemccfcabhgaa.Bm
namespace Go.Proofs.Ytjkemccfcabhgaa.Bm
open Go Go.RowKit
open Rg (Rect Pt Zn rightP polyL comA comP)
def kR : Except Int (List Rect) → Option Bool
  | .error _ => none
  | .ok _ => some false
def lR : Except Int (List Rect) → List Rect
  | .error _ => []
  | .ok l => l
def eR : Except Int (List Rect) → Int
  | .error e => e
  | .ok _ => 0
theorem resL_eq (r : Except Int (List Rect)) : resL r = .tuple ⟨[rectR.o (kR r) (lR r), .int .i64 (eR r)]⟩ := by cases r <;> rfl
theorem kR_ok (r : Except Int (List Rect)) : Rec.Ok (kR r) (lR r) := by
  cases r
  · exact fun _ => rfl
  · exact Rec.ok_some
theorem poly_reg {p : List Pt} (h : rightP p = true) (hl : (polyL p).length ≤ 200) : regB (polyL p) = true := by
  have hp := Rg.rightP_poly h
  obtain ⟨hf, hc⟩ := hp.form
  exact regB_iff.2 ⟨List.all_eq_true.2 fun r hr => okR_iff.2 (hf.box (fun x y hxy => hp.inGrid (by rw [← hc]; exact hxy)) r hr), hl, hf⟩
theorem pregion_o (x : Bool) (p : List Pt) (hp : p.length ≤ 1000000) : pureCall E.P (L E) 34 [lst x (spanR.vals p)] = some (.tuple ⟨[rectR.o (kR (polyX p)) (lR (polyX p)), .int .i64 (eR (polyX p))]⟩) := by
  rw [← resL_eq]; exact pregion_spec x p hp
theorem polyX_reg (p : List Pt) : regB (lR (polyX p)) = true := by
  unfold polyX
  cases hr : rightP p
  · exact regB_iff.2 ⟨rfl, by show 0 ≤ 200; omega, Rg.Form.nil⟩
  · rw [if_pos rfl]
    by_cases h : 200 < (polyL p).length
    · rw [if_pos h]; exact regB_iff.2 ⟨rfl, by show 0 ≤ 200; omega, Rg.Form.nil⟩
    · rw [if_neg h]; exact poly_reg hr (by omega)
abbrev Op := Option (Bool × List Value)
def opV : Op → Value
  | none => .slice none 0 0
  | some (b, l) => lst b l
theorem op_set {n : Nat} {o : Op} : settled (n + 1) (opV o) = true := by cases o <;> rfl
theorem op_reify {P : Program} {n : Nat} {h : Heap} {o : Op} : reify P (n + 1) h (opV o) = some (opV o) := by cases o <;> rfl
theorem op_bel {d n : Nat} {o : Op} : below (d + 1) n (opV o) = true := by cases o <;> rfl
structure Pl where
  d : Op
  t : Op
  r : Op
  c : Op
  v : Op
  s : Op
  h : Int
  x : Bool
  y : Bool
  zs : List Zn
def znE (y : Bool) (z : Zn) : List Value := [.string z.nm, .bool z.ov, lst y (spanR.vals z.cs)]
def znR (y : Bool) : Rec Zn where
  enc z := znE y z
  m := 2
  len _ := rfl
  set _ := rfl
  bel _ _ := rfl
def Pl.zv (p : Pl) : Value := lst p.x ((znR p.y).vals p.zs)
def Pl.cells (p : Pl) : List Value := [opV p.d, opV p.t, p.zv, opV p.r, opV p.c, opV p.v, opV p.s, .int .i64 p.h]
def Pl.val (p : Pl) : Value := .agg ⟨p.cells⟩
theorem Pl.zv_set {n : Nat} (p : Pl) : settled (n + 1) p.zv = true := rfl
theorem Pl.set (p : Pl) : settled depth p.val = true := by
  show [opV p.d, opV p.t, p.zv, opV p.r, opV p.c, opV p.v, opV p.s, .int .i64 p.h].all (settled 7) = true
  simp only [List.all_cons, List.all_nil, op_set, Pl.zv_set, Bool.and_true, Bool.true_and]; rfl
theorem Pl.cset (p : Pl) : p.cells.all (settled depth) = true := by
  show [opV p.d, opV p.t, p.zv, opV p.r, opV p.c, opV p.v, opV p.s, .int .i64 p.h].all (settled 8) = true
  simp only [List.all_cons, List.all_nil, op_set, Pl.zv_set, Bool.and_true, Bool.true_and]; rfl
theorem Pl.reify (h : Heap) (p : Pl) : Bm.reify E.P 8 h p.val = some p.val := by
  show ((if p.cells.all (settled depth) = true then some p.cells else p.cells.mapM (Bm.reify E.P 7 h)).map fun cs => Value.agg ⟨cs⟩) = _
  rw [if_pos p.cset]; rfl
theorem Pl.bel {d n : Nat} (p : Pl) : below (d + 2) n p.val = true := by
  show [opV p.d, opV p.t, p.zv, opV p.r, opV p.c, opV p.v, opV p.s, .int .i64 p.h].all (below (d + 1) n) = true
  simp only [List.all_cons, List.all_nil, op_bel, Bool.and_true, Bool.true_and]; rfl
end Go.Proofs.Ytjkemccfcabhgaa.Bm
