/-
  Chapter 18: the statement on overlaps, walked. Conditions: a plan that fits in memory.
-/
import Derived.Test.YtimjfondgdhfcaaQE25
namespace Go.Proofs.Ytimjfondgdhfcaa.Bm
open Go Go.RowKit
open Rg (Rect Pt Zn rightP polyL comA comP comS Once cell areaL ovF)
theorem skip_bel {d n : Nat} : below (d + 1) n skipV = true := rfl
theorem two_len {h : Heap} {a b : Int} : lenT .sl h (lst true [.int .i64 a, .int .i64 b]) = some (.int .i64 2) := rfl
theorem two_0 {a b : Int} : indexAddrT (.sl 3 ⟨some false, some 1⟩) (lst true [.int .i64 a, .int .i64 b]) (.int .i64 0) = some (cptr (.int .i64 a)) := rfl
theorem two_1 {a b : Int} : indexAddrT (.sl 3 ⟨some false, some 1⟩) (lst true [.int .i64 a, .int .i64 b]) (.int .i64 1) = some (cptr (.int .i64 b)) := rfl
theorem mapI_rest {zs : List Zn} {fnd : Bool} (h : (ovF 0 (allL zs)).isSome = fnd) : mapI zs = if anyZ zs then 10 else if twF zs then 5 else if fnd then 11 else 0 := by
  unfold mapI
  rw [dup_twF, h]
theorem head_0 {r : Rect} {l : List Rect} {b : Nat} : indexAddrT (.sl 55 ⟨some true, some 4⟩) (rectR.sl b (r :: l)) (.int .i64 0) = some (rectR.at_ b (r :: l) 0 0) := Rec.index_row (R := rectR) rfl (Nat.zero_lt_succ _)
theorem head_x {r : Rect} {l : List Rect} {b : Nat} {h : Heap} (hob : h[b]? = some (rectR.row 55 (r :: l))) : loadT ⟨some false, some 1⟩ h (rectR.at_ b (r :: l) 0 0) = some (.int .i64 r.x0) := Rec.load_cell (R := rectR) (j := 0) hob (Nat.zero_lt_succ _) (by decide)
theorem head_y {r : Rect} {l : List Rect} {b : Nat} {h : Heap} (hob : h[b]? = some (rectR.row 55 (r :: l))) : loadT ⟨some false, some 1⟩ h (rectR.at_ b (r :: l) 0 1) = some (.int .i64 r.y0) := Rec.load_cell (R := rectR) (j := 1) hob (Nat.zero_lt_succ _) (by decide)
set_option maxHeartbeats 8000000 in
theorem overlaps_law (p : Pl) (hl : p.zs.length ≤ 9223372036854775807) : ∃ h', L E 5 [p.val] [] 0 = some (.bool true, h') := by
  have op0 := @op_bel
  have blz : ∀ d n, below (d + 1) n p.zv = true := fun d n => rfl
  have sm := small_spec
  have fa := few_spec p (.slice none 0 0) 0 (fun h => rfl) (fun _ _ => rfl) hl
  have rp := fun h => p.reify h
  have sp := p.set
  have ro : ∀ h k l, reify E.P 8 h (rectR.o k l) = some (rectR.o k l) := fun _ _ _ => Rec.o_reify
  have so : ∀ k l, settled depth (rectR.o k l) = true := fun _ _ => Rec.o_set
  have rn : ∀ h, reify E.P 8 h (.slice none 0 0) = some (.slice none 0 0) := fun _ => rfl
  have lz : ∀ h, lenT .sl h p.zv = some (.int .i64 p.zs.length) := fun h => Rec.tree_len
  have iz : ∀ (j : Nat) (hj : j < p.zs.length), indexAddrT (.sl 49 ⟨some true, some 3⟩) p.zv (.int .i64 (j : Int)) = some (cptr ((znR p.y).val p.zs[j])) := fun j hj => Rec.index_tree rfl hj
  have hMp := fun hp => zmap_spec p hp
  have hRep := fun hp => overlap_rep p hp
  cases ha : fewB p.zs 0
  · rw [ha] at fa
    refine ⟨[plO p p.zv], ?_⟩
    rw [L_fn F5 rfl]
    unfold Pl.val Pl.cells at *
    generalize p.zv = ZV at *
    simp -implicitDefEqProofs [r5, p5, ret0 m8, sm, ret0 m9, rp, rn, fa, plO]
  rw [ha] at fa
  obtain ⟨hp, _⟩ := fewB_ok ha
  have hMp := hMp hp
  obtain ⟨LV, fnd, at_, hOv, hR⟩ := hRep hp
  have hl6 := hp.len
  have hcz := hp.cor
  have eM := mapI_rest hR.is
  rw [L_fn F5 rfl]
  unfold Pl.val Pl.cells at *
  generalize p.zv = ZV at *
  obtain ⟨ax, ay⟩ := at_
  have hq := hR.pair
  cases hf : fnd
  case' false =>
    obtain ⟨rfl, e0⟩ := hR.no hf
    subst hf
    refine ⟨[plO p ZV, ptO (ax, ay)], ?_⟩
    have neq0 : aBin E.P .neq 36 (.agg ⟨[.int .i64 ax, .int .i64 ay]⟩) (.agg ⟨[.int .i64 0, .int .i64 0]⟩) = some (.bool false) := by
      rw [neq_pt, e0]; rfl
    have ln0 : ∀ h, lenT .sl h (.slice none 0 0) = some (.int .i64 0) := fun _ => rfl
    have key : ∀ i k (hk : k < p.zs.length) (hik : i < k), (p.zs[i]'(by omega)).ov = false → p.zs[k].ov = false → 0 < comA (cellsZ (p.zs[i]'(by omega))) (cellsZ p.zs[k]) → False := fun i k hk hik o1 o2 hc => absurd (hq i k hk hik o1 o2 hc).1 Bool.false_ne_true
    simp -implicitDefEqProofs [r5, p5, ret0 m8, sm, ret0 m9, rp, rn, fa, ret1 m10, sp, hOv, ln0, neq0, b2_none]
  case' true =>
    obtain ⟨a, b, hb, hab, rfl, hcab⟩ := hR.yes hf
    subst hf
    have hb1 : ((b : Nat) : Int) < (p.zs.length : Int) := by omega
    have hb2 : ¬ (p.zs.length ≤ b) := by omega
    have hb3 : ¬ ((p.zs.length : Int) ≤ (b : Int)) := by omega
    have ha0 : ¬ ((a : Int) < 0) := by omega
    have hab1 : ¬ ((b : Int) ≤ (a : Int)) := by omega
    have hab2 : ¬ (b ≤ a) := by omega
    have key : ∀ i k (hk : k < p.zs.length) (hik : i < k), (p.zs[i]'(by omega)).ov = false → p.zs[k].ov = false → 0 < comA (cellsZ (p.zs[i]'(by omega))) (cellsZ p.zs[k]) → ¬ i < a ∧ ¬ (i = a ∧ k < b) ∧ (i = a → k = b → (ax, ay) = comP (cellsZ (p.zs[i]'(by omega))) (cellsZ p.zs[k]) (1048576, 0)) := fun i k hk hik o1 o2 hc => by
      obtain ⟨_, a', b', e, k1, k2, k3⟩ := hq i k hk hik o1 o2 hc
      have e1 : a = a' ∧ b = b' := by
        unfold lst at e
        simp at e
        omega
      obtain ⟨rfl, rfl⟩ := e1
      exact ⟨k1, k2, k3⟩
    have iza := iz a (by omega)
    have izb := iz b hb
    have rca := rcells_spec p.y (p.zs[a]'(by omega)) (hcz _ (List.getElem_mem _))
    have rcb := rcells_spec p.y p.zs[b] (hcz _ (List.getElem_mem _))
    have za : settled depth ((znR p.y).val (p.zs[a]'(by omega))) = true := rfl
    have zb : settled depth ((znR p.y).val p.zs[b]) = true := rfl
    obtain ⟨rab, lab, hFab⟩ : ∃ r l, refL andF (cellsZ (p.zs[a]'(by omega))) (cellsZ p.zs[b]) = r :: l := by
      rcases form_head (cellsZ_reg (p.zs[a]'(by omega))) (cellsZ_reg p.zs[b]) with ⟨_, h⟩ | ⟨r, l, h, _⟩
      · exact absurd hcab h
      · exact ⟨r, l, h⟩
    have fpab := fun h => form_pair (p.zs[a]'(by omega)) p.zs[b] h 0 (Nat.zero_le _)
    rw [hFab] at fpab
    refine ⟨[plO p ZV, ptO (ax, ay), rectR.row 55 (rab :: lab)], ?_⟩
    have lab0 : ¬ ((lab.length : Int) + 1 = 0) := by omega
    rw [zn_val] at iza izb rca rcb za zb
    simp -implicitDefEqProofs [r5, p5, ret0 m8, sm, ret0 m9, rp, rn, fa, ret1 m10, sp, hOv, two_len, two_0, two_1, lz, hb1, hb2, hb3, ha0, hab1, hab2]
  all_goals
    rw [LL_for (γ := Bool × Bool) p.zs (false, false) (fun i c => [(7, .bool c.1), (8, .bool c.2), (9, .int .i64 i)]) (fun _ _ => [plO p ZV, ptO (ax, ay)])
      (fun i rest c => (.exit 0, [(7, .bool (c.1 || anyZ rest)), (8, .bool (c.2 || twF rest)), (9, undef)], [plO p ZV, ptO (ax, ay)])) (fun _ _ => True) hl trivial]
    · rw [eM] at hMp
      cases hA : anyZ p.zs <;> cases hT : twF p.zs <;> rw [hA, hT] at hMp
      all_goals
        first
        | (simp -implicitDefEqProofs [k5_10, plO, ptO, ret0 m12, rp, hMp, beq]; done)
        | (simp -implicitDefEqProofs [k5_10, plO, ptO, two_0, two_1, iza, izb, ret1 m23, za, zb, rca, rcb, fpab, Rec.sl_len, ret0 m12, rp, hMp, beq, lab0]; done)
        | (simp -implicitDefEqProofs [k5_10, plO, ptO, ret0 m12, rp, hMp, beq])
    · simp -implicitDefEqProofs [k5_10]
    · rfl
    · intro nx i c hi _
      have e1 : anyZ [] = false := rfl
      have e2 : twF [] = false := rfl
      simp -implicitDefEqProofs [r5_10, k5_10, hi, lz, trim_le, e1, e2, plO, ptO]
    · intro nx i z rest c hi hv hd hw _ ih
      obtain ⟨s, q⟩ := c
      have hi' : (i : Int) < (p.zs.length : Int) := by omega
      have xi := iz i hi
      rw [hv] at xi
      have czl := hcz z (hv ▸ List.getElem_mem hi)
      have pz := pregion_o p.y z.cs (by omega)
      have sv : settled depth (lst p.y (spanR.vals z.cs)) = true := rfl
      have rcz := rcells_spec p.y z czl
      have sz : settled depth ((znR p.y).val z) = true := rfl
      have wi : IntKind.i64.wrap ((i : Int) + 1) = ((i + 1 : Nat) : Int) := (wrap64 (by omega) (by omega)).trans (by omega)
      have hrl : rest.length = p.zs.length - (i + 1) := by
        have := congrArg List.length hd
        rw [List.length_drop, List.length_cons] at this; omega
      have hrg : ∀ (j : Nat) (h : j < rest.length), ∃ h' : i + 1 + j < p.zs.length, rest[j] = p.zs[i + 1 + j] := fun j h => by
        have h' : i + 1 + j < p.zs.length := by omega
        refine ⟨h', ?_⟩
        have e2 : (p.zs.drop i)[j + 1]? = rest[j]? := by rw [hd]; rfl
        rw [List.getElem?_drop, show i + (j + 1) = i + 1 + j by omega, List.getElem?_eq_getElem h', List.getElem?_eq_getElem h] at e2
        exact (Option.some.inj e2).symm
      have ea : ∀ s, (s || anyZ (z :: rest)) = (s || badZ z || anyZ rest) := fun s => by show (s || (badZ z || anyZ rest)) = _; rw [Bool.or_assoc]
      have et : (q || twF (z :: rest)) = (q || twR z.nm rest || twF rest) := by show (q || (twR z.nm rest || twF rest)) = _; rw [Bool.or_assoc]
      have ih := ih (s || badZ z, q || twR z.nm rest) trivial
      simp only at ih ⊢
      rw [ea, et]
      rw [zn_val] at xi rcz sz
      have ebt : eR (polyX z.cs) = 0 → badZ z = false := fun h => by unfold badZ; rw [decide_eq_true h]; rfl
      have ebf : ¬ eR (polyX z.cs) = 0 → badZ z = true := fun h => by unfold badZ; rw [decide_eq_false h]; rfl
      generalize hbz : badZ z = bz at *
      have hbig : (s || bz) = (if s then true else !decide (eR (polyX z.cs) = 0)) := by
        by_cases h : eR (polyX z.cs) = 0
        · rw [ebt h, decide_eq_true h]; cases s <;> rfl
        · rw [ebf h, decide_eq_false h]; cases s <;> rfl
      generalize hsb : (s || bz) = sb at *
      simp -implicitDefEqProofs [k5_10, plO, ptO, -Int.natCast_add] at ih
      cases hs : s
      case' false =>
        rw [hs, if_neg Bool.false_ne_true] at hbig
        simp -implicitDefEqProofs [r5_10, k5_10, hi, hi', lz, xi, ret1 m21, sv, pz, wi, plO, ptO, -Int.natCast_add]
        rw [← hbig]
      case' true =>
        rw [hs, if_pos rfl] at hbig
        simp -implicitDefEqProofs [r5_10, k5_10, hi, hi', lz, xi, ret1 m21, sv, pz, wi, plO, ptO, -Int.natCast_add]
        subst hbig
      all_goals
        rw [LL_for (γ := Bool) rest q (fun j c => [(8, .bool c), (12, .int .i64 ((i + 1 + j : Nat) : Int))]) (fun _ _ => [plO p ZV, ptO (ax, ay)])
          (fun j rest2 c => (.exit 2, [(8, .bool (c || twR z.nm rest2)), (12, undef)], [plO p ZV, ptO (ax, ay)])) (fun _ _ => True) (by omega) trivial]
        · simp -implicitDefEqProofs [k5_15, wi, plO, ptO, trim_le, -Int.natCast_add]
          exact ih
        · simp -implicitDefEqProofs [k5_15, -Int.natCast_add]
        · rfl
        · intro nx2 j c hj _
          have hjn : ¬ (((i + 1 + j : Nat) : Int) < (p.zs.length : Int)) := by omega
          have hjn' : ¬ (i + 1 + j < p.zs.length) := by omega
          have e1 : twR z.nm [] = false := rfl
          simp -implicitDefEqProofs [r5_15, k5_15, lz, hjn, hjn', trim_le, e1, plO, ptO, -Int.natCast_add]
        · intro nx2 j w rest2 c hj hv2 hd2 hw2 _ ih2
          obtain ⟨hjn, ew⟩ := hrg j hj
          rw [hv2] at ew
          have hjn' : ((i + 1 + j : Nat) : Int) < (p.zs.length : Int) := by omega
          have xw := iz (i + 1 + j) hjn
          have cwl := hcz (p.zs[i + 1 + j]) (List.getElem_mem _)
          rw [← ew] at xw cwl
          have rcw := rcells_spec p.y w cwl
          have sw : settled depth ((znR p.y).val w) = true := rfl
          rw [zn_val] at xw rcw sw
          have wk : IntKind.i64.wrap (((i + 1 + j : Nat) : Int) + 1) = ((i + 1 + (j + 1) : Nat) : Int) := (wrap64 (by omega) (by omega)).trans (by omega)
          have fp := fun h => form_pair z w h 0 (Nat.zero_le _)
          have et2 : (c || twR z.nm (w :: rest2)) = (c || decide (z.nm = w.nm) || twR z.nm rest2) := by show (c || (decide (z.nm = w.nm) || twR z.nm rest2)) = _; rw [Bool.or_assoc]
          rw [et2]
          have ih2 := ih2 (c || decide (z.nm = w.nm)) trivial
          simp -implicitDefEqProofs [k5_15, plO, ptO, -Int.natCast_add] at ih2
          have hky := key i (i + 1 + j) hjn (by omega)
          simp only [hv, ← ew] at hky
          rcases form_head (cellsZ_reg z) (cellsZ_reg w) with ⟨hF, _⟩ | ⟨r, l, hF, hc, hcor⟩
          case' inl =>
            rw [hF] at fp
            cases hzo : z.ov
            · rw [hzo] at xi rcz sz ih2
              cases hwo : w.ov
              · rw [hwo] at xw rcw sw
                cases c
                all_goals
                  simp -implicitDefEqProofs [r5_15, k5_15, lz, hjn, hjn', hi, hi', xi, xw, ret1 m23, sz, sw, rcz, rcw, fp, Rec.sl_len, wk, plO, ptO, trim_cut, op0, blz, Rec.o_bel, skip_bel, -Int.natCast_add]
                  first
                  | exact ih2
                  | (simp only [Bool.true_or, Bool.false_or] at ih2; exact ih2)
              · rw [hwo] at xw rcw sw
                cases c
                all_goals
                  simp -implicitDefEqProofs [r5_15, k5_15, lz, hjn, hjn', hi, hi', xi, xw, ret1 m23, sz, sw, rcz, rcw, fp, Rec.sl_len, wk, plO, ptO, trim_cut, op0, blz, Rec.o_bel, skip_bel, -Int.natCast_add]
                  first
                  | exact ih2
                  | (simp only [Bool.true_or, Bool.false_or] at ih2; exact ih2)
            · rw [hzo] at xi rcz sz ih2
              cases c
              all_goals
                simp -implicitDefEqProofs [r5_15, k5_15, lz, hjn, hjn', hi, hi', xi, xw, ret1 m23, sz, sw, rcz, rcw, fp, Rec.sl_len, wk, plO, ptO, trim_cut, op0, blz, Rec.o_bel, skip_bel, -Int.natCast_add]
                first
                | exact ih2
                | (simp only [Bool.true_or, Bool.false_or] at ih2; exact ih2)
          case' inr =>
            rw [hF] at fp
            have ll1 : ¬ ((l.length : Int) + 1 = 0) := by omega
            have hfld : ∀ k f, fieldAddrT k (some (f, ⟨some false, some 1⟩)) (rectR.at_ 2 (r :: l) 0 0) = some (rectR.at_ 2 (r :: l) 0 f) := fun k f => Rec.field_row
            have hx := fun h (hob : h[2]? = some (rectR.row 55 (r :: l))) => head_x hob
            have hy := fun h (hob : h[2]? = some (rectR.row 55 (r :: l))) => head_y hob
            have h0 := head_0 (r := r) (l := l) (b := 2)
            by_cases hboth : z.ov = false ∧ w.ov = false
            case' pos =>
              obtain ⟨hzo, hwo⟩ := hboth
              have hk := hky hzo hwo hc
              rw [hzo] at xi rcz sz
              rw [hwo] at xw rcw sw
              rw [hzo] at ih2 ⊢
              first
              | exact False.elim hk
              | (obtain ⟨k1, k2, k3⟩ := hk
                 have k1' := mt Int.ofNat_lt.1 k1
                 have h3 : (i = a ∧ i + 1 + j = b) ∨ (i = a ∧ ¬ (i + 1 + j = b)) ∨ ¬ (i = a) := by omega
                 rcases h3 with ⟨ei, ek⟩ | ⟨ei, ek⟩ | ei
                 · have hkb : ¬ (i + 1 + j < b) := fun h => k2 ⟨ei, h⟩
                   have hkb' := mt Int.ofNat_lt.1 hkb
                   have ei2 : (i = a) = True := eq_true ei
                   have ei3 : ((i : Int) = (a : Int)) = True := eq_true (by omega)
                   have ek2 : (i + 1 + j = b) = True := eq_true ek
                   have ek3 : (((i + 1 + j : Nat) : Int) = (b : Int)) = True := eq_true (by omega)
                   have neqc : aBin E.P .neq 36 (.agg ⟨[.int .i64 ax, .int .i64 ay]⟩) (.agg ⟨[.int .i64 r.x0, .int .i64 r.y0]⟩) = some (.bool false) := by
                     rw [neq_pt, (k3 ei ek).trans hcor.symm, decide_eq_true rfl]; rfl
                   cases c
                   all_goals
                     simp -implicitDefEqProofs [r5_15, k5_15, lz, hjn, hjn', hi, hi', xi, xw, ret1 m23, sz, sw, rcz, rcw, fp, Rec.sl_len, wk, plO, ptO, trim_cut, op0, blz, Rec.o_bel, skip_bel, two_0, two_1, h0, hfld, hx, hy, ll1, b2_all, k1, k1', hkb, hkb', ei2, ei3, ek2, ek3, neqc, -Int.natCast_add]
                     first
                     | exact ih2
                     | (simp only [Bool.true_or, Bool.false_or] at ih2; exact ih2)
                 · have hkb : ¬ (i + 1 + j < b) := fun h => k2 ⟨ei, h⟩
                   have hkb' := mt Int.ofNat_lt.1 hkb
                   have ei2 : (i = a) = True := eq_true ei
                   have ei3 : ((i : Int) = (a : Int)) = True := eq_true (by omega)
                   have ek2 : (i + 1 + j = b) = False := eq_false ek
                   have ek3 : (((i + 1 + j : Nat) : Int) = (b : Int)) = False := eq_false (by omega)
                   cases c
                   all_goals
                     simp -implicitDefEqProofs [r5_15, k5_15, lz, hjn, hjn', hi, hi', xi, xw, ret1 m23, sz, sw, rcz, rcw, fp, Rec.sl_len, wk, plO, ptO, trim_cut, op0, blz, Rec.o_bel, skip_bel, two_0, two_1, h0, hfld, hx, hy, ll1, b2_all, k1, k1', hkb, hkb', ei2, ei3, ek2, ek3, -Int.natCast_add]
                     first
                     | exact ih2
                     | (simp only [Bool.true_or, Bool.false_or] at ih2; exact ih2)
                 · have ei2 : (i = a) = False := eq_false ei
                   have ei3 : ((i : Int) = (a : Int)) = False := eq_false (by omega)
                   cases c
                   all_goals
                     simp -implicitDefEqProofs [r5_15, k5_15, lz, hjn, hjn', hi, hi', xi, xw, ret1 m23, sz, sw, rcz, rcw, fp, Rec.sl_len, wk, plO, ptO, trim_cut, op0, blz, Rec.o_bel, skip_bel, two_0, two_1, h0, hfld, hx, hy, ll1, b2_all, k1, k1', ei2, ei3, -Int.natCast_add]
                     first
                     | exact ih2
                     | (simp only [Bool.true_or, Bool.false_or] at ih2; exact ih2))
            case' neg =>
              cases hzo : z.ov
              · rw [hzo] at xi rcz sz ih2
                cases hwo : w.ov
                · exact absurd ⟨hzo, hwo⟩ hboth
                · rw [hwo] at xw rcw sw
                  cases c
                  all_goals
                    simp -implicitDefEqProofs [r5_15, k5_15, lz, hjn, hjn', hi, hi', xi, xw, ret1 m23, sz, sw, rcz, rcw, fp, Rec.sl_len, wk, plO, ptO, trim_cut, op0, blz, Rec.o_bel, skip_bel, ll1, -Int.natCast_add]
                    first
                    | exact ih2
                    | (simp only [Bool.true_or, Bool.false_or] at ih2; exact ih2)
              · rw [hzo] at xi rcz sz ih2
                cases c
                all_goals
                  simp -implicitDefEqProofs [r5_15, k5_15, lz, hjn, hjn', hi, hi', xi, xw, ret1 m23, sz, sw, rcz, rcw, fp, Rec.sl_len, wk, plO, ptO, trim_cut, op0, blz, Rec.o_bel, skip_bel, ll1, -Int.natCast_add]
                  first
                  | exact ih2
                  | (simp only [Bool.true_or, Bool.false_or] at ih2; exact ih2)
end Go.Proofs.Ytimjfondgdhfcaa.Bm
