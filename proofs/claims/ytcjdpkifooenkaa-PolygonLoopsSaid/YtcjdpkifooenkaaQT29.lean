/-
 Chapter 07: the statement on loops, walked. Conditions: none.
-/
import Derived.Test.YtcjdpkifooenkaaQT28
namespace Go.Proofs.Ytcjdpkifooenkaa.Bm
open Go Go.RowKit
open Rg (Rect Pt Sd sidesP ltPo csum ssum crossI shoeS bdL areaL cell ofL)
theorem less_spec (a b : Pt) : pureCall E.P (L E) 7 [.agg ⟨[.int .i64 a.1, .int .i64 a.2]⟩, .agg ⟨[.int .i64 b.1, .int .i64 b.2]⟩] = some (.bool (ltPo a b)) := by
 rw [pureCall_fn F7 rfl]
 unfold ltPo
 by_cases h1 : a.1 < b.1
 ·simp -implicitDefEqProofs [r7, p7, h1]
 ·by_cases h2 : a.1 = b.1
  ·have h1' : ¬ b.1 < b.1 := by omega
   simp -implicitDefEqProofs [r7, p7, h2]
  ·simp -implicitDefEqProofs [r7, p7, h1, h2]
theorem trc_len (f : Nat → Nat) : ∀ (k : Nat) (d : List Bool) (i : Nat), (Rg.trc f k d i).2.length ≤ k
 | 0, _, _ => Nat.le_refl _
 | k + 1, d, i => by
  unfold Rg.trc
  split
  ·exact Nat.succ_le_succ (trc_len f k _ _)
  ·exact Nat.zero_le _
theorem ways_len (f : Nat → Nat) (n : Nat) : ∀ (m i : Nat) (d : List Bool), (Rg.waysF f n m i d).length = m ∧ ∀ w ∈ Rg.waysF f n m i d, w.length ≤ n + 1
 | 0, _, _ => ⟨rfl, fun w h => absurd h List.not_mem_nil⟩
 | m + 1, i, d => by
  obtain ⟨h1, h2⟩ := ways_len f n m (i + 1) (Rg.trc f (n + 1) d i).1
  refine ⟨congrArg (· + 1) h1, fun w hw => ?_⟩
  rcases List.mem_cons.1 hw with e | e
  ·rw [e]; exact trc_len f (n + 1) d i
  ·exact h2 w e
theorem corn_len (l : List Sd) : ∀ w : List Nat, (Rg.cornF l w).length ≤ w.length
 | [] => Nat.le_refl _
 | i :: w => by
  have ih := corn_len l w
  have e : Rg.cornF l (i :: w) = (if Rg.turnI (Rg.gtS l i) (Rg.gtS l (Rg.nxI l i)) = 0 then [] else [(Rg.gtS l i).2]) ++ Rg.cornF l w := rfl
  rw [e, List.length_append, List.length_cons]
  split
  ·show 0 + _ ≤ _; omega
  ·show 1 + _ ≤ _; omega
theorem out_len (l : List Sd) : (outL l).length ≤ l.length ∧ ∀ p ∈ outL l, p.length ≤ l.length + 1 := by
 obtain ⟨h1, h2⟩ := ways_len (Rg.nxI l) l.length l.length 0 (List.replicate l.length false)
 constructor
 ·unfold outL
  rw [List.length_mergeSort]
  unfold Rg.loopsL
  refine Nat.le_trans (List.length_filter_le _ _) ?_
  rw [List.length_map]
  exact Nat.le_of_eq h1
 ·intro p hp
  have hp := List.mem_mergeSort.1 hp
  obtain ⟨w, hw, e⟩ := List.mem_map.1 (List.mem_filter.1 hp).1
  have := (Rg.rotM_rot (Rg.cornF l w)).len
  have := corn_len l w
  have := h2 w hw
  rw [← e]; omega
theorem csum_ss (φ : Sd → Int) (p : List Pt) : csum φ p = ssum φ (sidesP p) := Rg.csum_sides φ p
def wr (z : Int) : Int := IntKind.i64.wrap z
set_option maxHeartbeats 4000000 in
theorem loops_law (l : List Rect) (x y : Int) : ∃ h', L E 3 [lst false (rectR.vals l), .int .i64 x, .int .i64 y] [] 0 = some (.bool true, h') := by
 refine ⟨[], ?_⟩
 have sm := small_spec
 have ln : ∀ h, lenT .sl h (lst false (rectR.vals l)) = some (.int .i64 l.length) := fun h => Rec.tree_len
 have hO := fun hl => of_spec (some false) l Rec.ok_some hl
 have fz : freezeV E.P depth 0 [] (lst false (rectR.vals l)) = some (lst false (rectR.vals l), []) := frz_set8 rfl rfl
 have hO : l.length ≤ 1000000 → pureCall E.P (L E) 5 [lst false (rectR.vals l)] = _ := hO
 have bL : ∀ d n, below (d + 1) n (lst false (rectR.vals l)) = true := fun d n => rfl
 generalize lst false (rectR.vals l) = LV at *
 rw [L_fn F3 rfl]
 by_cases h30 : 30 < l.length
 ·have h30' : 30 < (l.length : Int) := by omega
  simp -implicitDefEqProofs [r3, p3, ret0 m4, sm, ln, h30, h30']
 have h30' : ¬ (30 < (l.length : Int)) := by omega
 have hO := hO (by omega)
 obtain ⟨k, a, e, eo, hk, hr⟩ : ∃ (k : Option Bool) (a : List Rect) (e : Int), resL (ofR l) = .tuple ⟨[rectR.o k a, .int .i64 e]⟩ ∧ Rec.Ok k a ∧ regB a = true := by
  have h0 : regB [] = true := by kernel_rfl
  unfold ofR
  by_cases c1 : l.all okR = true
  ·rw [if_pos c1, if_neg (by omega)]
   by_cases c2 : (ofL l).length ≤ 200
   ·rw [if_pos c2]
    obtain ⟨hf, hc⟩ := Rg.ofL_ok (ofL_ok' c1)
    have hb : ∀ r ∈ l, r.inBox 1048576 := fun r hr => okR_iff.1 (List.all_eq_true.1 c1 r hr)
    exact ⟨some false, ofL l, 0, rfl, Rec.ok_some, regB_iff.2 ⟨List.all_eq_true.2 fun r hr => okR_iff.2 (hf.box (fun x y hxy => Rg.cell_box hb (by rw [← hc]; exact hxy)) r hr), c2, hf⟩⟩
   ·rw [if_neg c2]; exact ⟨none, [], 6, rfl, fun _ => rfl, h0⟩
  ·rw [if_neg c1]; exact ⟨none, [], 1, rfl, fun _ => rfl, h0⟩
 rw [eo] at hO
 have fa := frzAll_row (lo := 0) fz
 have hU := outline_spec k a hk hr
 have st : settled depth (rectR.o k a) = true := Rec.o_set
 have rf : ∀ h, reify E.P 8 h (rectR.o k a) = some (rectR.o k a) := fun _ => Rec.o_reify
 have la : ∀ h, lenT .sl h (rectR.o k a) = some (.int .i64 a.length) := fun _ => Rec.o_len hk
 have bA : ∀ d n, below (d + 1) n (rectR.o k a) = true := fun d n => Rec.o_bel
 have hnet := regB_net hr
 have hap := (regB_iff.1 hr).2.2.apart
 have ha200 := (regB_iff.1 hr).2.1
 have hH := has2_spec k a x y hk (by omega)
 rw [hr, Bool.true_and] at hH
 have hA := area2_spec k a hk (by omega)
 rw [hr, if_pos rfl] at hA
 have o1 := out_loop hnet
 have o2 := out_sum hnet (Rg.shoe_add)
 have o3 : ((outL (bdL a)).map (csum (crossI x y))).sum = ssum (crossI x y) (bdL a) := by
  rw [show crossI x y = Rg.phiV (Rg.leI x) (Rg.leI y) from funext (Rg.cross_phi x y)]
  exact out_sum hnet (Rg.phiV_add _ _)
 have o4 := out_nil hnet
 have o5 := out_asc hnet
 have hbl := bd_len ha200
 obtain ⟨o7, o8⟩ := out_len (bdL a)
 have o7 : (outL (bdL a)).length ≤ 400000 := by omega
 have o8 : ∀ p ∈ outL (bdL a), p.length ≤ 400001 := fun p hp => by have := o8 p hp; omega
 rw [Rg.bd_shoe hap] at o2
 rw [Rg.bd_cross hap] at o3
 have o6 : bdL a = [] ↔ a = [] := by
  constructor
  ·intro h
   have := bdH_len a
   unfold bdL at h
   rw [(List.append_eq_nil_iff.1 h).1] at this
   exact List.eq_nil_of_length_eq_zero (by have : 0 = 2 * a.length := this; omega)
  ·intro h; rw [h]; rfl
 have lO : ∀ h, lenT .sl h (lst false (ptsE.vals (outL (bdL a)))) = some (.int .i64 (outL (bdL a)).length) := fun h => Enc.o_len (O := ptsE) (k := some false) Enc.ok_some
 have ixO : ∀ (i : Nat) (hi : i < (outL (bdL a)).length), indexAddrT (.sl 29 ⟨some false, some 1⟩) (lst false (ptsE.vals (outL (bdL a)))) (.int .i64 (i : Int)) = some (cptr (lst false (spanR.vals (outL (bdL a))[i]))) := fun i hi => Enc.index_tree (O := ptsE) hi
 have bO : ∀ d n, below (d + 1) n (lst false (ptsE.vals (outL (bdL a)))) = true := fun d n => rfl
 generalize lst false (ptsE.vals (outL (bdL a))) = OV at *
 rw [o6] at o4
 generalize outL (bdL a) = O at *
 generalize rectR.o k a = AV at *
 simp -implicitDefEqProofs [r3, p3, ret0 m4, sm, ln, h30, h30', ret4 m5, fa, hO, ret1 m6, st, hU]
 have wr0 : wr 0 = 0 := by decide
 rw [LL_for (γ := Int × Int) O (0, 0) (fun i c => [(11, .int .i64 (wr c.1)), (12, .int .i64 (wr c.2)), (13, .int .i64 i)]) (fun _ _ => []) (fun _ rest c => (.exit 0, [(11, .int .i64 (wr (c.1 + (rest.map (csum (crossI x y))).sum))), (12, .int .i64 (wr (c.2 + (rest.map (csum shoeS)).sum))), (13, undef)], [])) (fun _ _ => True) (by omega) trivial]
 ·rw [o2, o3, Int.zero_add, Int.zero_add]
  have wc : wr (if cell a x y = true then 1 else 0) = if cell a x y = true then 1 else 0 := by split <;> decide
  have wa : IntKind.i64.wrap (2 * areaL a) = wr (2 * areaL a) := rfl
  rw [wc]
  have eO : ((O.length : Int) = 0 ↔ (a.length : Int) = 0) := by
   constructor
   ·intro h; rw [o4.1 (List.eq_nil_of_length_eq_zero (by omega))]; rfl
   ·intro h; rw [o4.2 (List.eq_nil_of_length_eq_zero (by omega))]; rfl
  generalize wr (2 * areaL a) = T at *
  cases hc : cell a x y <;> rw [hc] at hH <;> by_cases hz : (a.length : Int) = 0
  ·have hz' := eO.2 hz
   simp -implicitDefEqProofs [k3_9, ret0 m8, rf, hH, ret0 m9, hA, wa, lO, la, hz, hz', o4, beq]
  ·have hz' := fun h => hz (eO.1 h)
   simp -implicitDefEqProofs [k3_9, ret0 m8, rf, hH, ret0 m9, hA, wa, lO, la, hz, hz', o4, beq]
  ·have hz' := eO.2 hz
   simp -implicitDefEqProofs [k3_9, ret0 m8, rf, hH, ret0 m9, hA, wa, lO, la, hz, hz', o4, beq]
  ·have hz' := fun h => hz (eO.1 h)
   simp -implicitDefEqProofs [k3_9, ret0 m8, rf, hH, ret0 m9, hA, wa, lO, la, hz, hz', o4, beq]
 ·simp -implicitDefEqProofs [k3_9, wr0]
 ·rfl
 ·intro nx i c hi _
  simp -implicitDefEqProofs [r3_9, k3_9, hi, lO, trim_le]
 ·intro nx i p rest c hi hv hd hw _ ih
  obtain ⟨D, T⟩ := c
  have hp : p ∈ O := by rw [← hv]; exact List.getElem_mem hi
  obtain ⟨q1, q2, q3, m, r, q4, q5⟩ := o1 p hp
  have xi := ixO i hi
  rw [hv] at xi
  have hpl := o8 p hp
  have lp : ∀ h, lenT .sl h (lst false (spanR.vals p)) = some (.int .i64 p.length) := fun h => Rec.tree_len
  have bP : ∀ d n, below (d + 1) n (lst false (spanR.vals p)) = true := fun d n => rfl
  have fp : fitsTT ⟨some false, some 1⟩ (lst false (spanR.vals p)) = true := rfl
  have ixp : ∀ (j : Nat) (hj : j < p.length), indexAddrT (.sl 32 ⟨some true, some 2⟩) (lst false (spanR.vals p)) (.int .i64 (j : Int)) = some (cptr (.agg ⟨[.int .i64 p[j].1, .int .i64 p[j].2]⟩)) := fun j hj => Rec.index_tree (R := spanR) rfl hj
  have h4 : ¬ ((p.length : Int) < 4) := by omega
  have rm : aBin E.P .rem 3 (.int .i64 (p.length : Int)) (.int .i64 2) = some (.int .i64 0) := by
   have := rem_nat (P := E.P) (t := 3) (m := p.length) (n := 2) (by omega)
   rw [q2] at this; exact this
  have hm0 : p[0] = m := by simp [q4]
  have hlm : ∀ (j : Nat) (hj : j < p.length), 0 < j → ltPo m p[j] = true := fun j hj h0 => by
   obtain ⟨j, rfl⟩ : ∃ k, j = k + 1 := ⟨j - 1, by omega⟩
   subst q4
   exact q5 _ (List.getElem_mem _)
  have i0 : indexAddrT (.sl 32 ⟨some true, some 2⟩) (lst false (spanR.vals p)) (.int .i64 0) = some (cptr (.agg ⟨[.int .i64 m.1, .int .i64 m.2]⟩)) := by
   have := ixp 0 (by omega)
   rw [hm0] at this; exact this
  have wi : IntKind.i64.wrap ((i : Int) + 1) = ((i + 1 : Nat) : Int) := (wrap64 (by omega) (by omega)).trans (by omega)
  have hgo : ∀ σ : Bool, True := fun _ => trivial
  have e1 : D + (((p :: rest).map (csum (crossI x y))).sum) = D + ssum (crossI x y) (sidesP p) + (rest.map (csum (crossI x y))).sum := by rw [List.map_cons, List.sum_cons, csum_ss]; omega
  have e2 : T + (((p :: rest).map (csum shoeS)).sum) = T + ssum shoeS (sidesP p) + (rest.map (csum shoeS)).sum := by rw [List.map_cons, List.sum_cons, csum_ss]; omega
  simp only [e1, e2]
  have ih := ih (D + ssum (crossI x y) (sidesP p), T + ssum shoeS (sidesP p)) trivial
  simp only at ih
  generalize (rest.map (csum (crossI x y))).sum = ZD at *
  generalize (rest.map (csum shoeS)).sum = ZT at *
  have hsl := Rg.sides_len p
  generalize hPV : lst false (spanR.vals p) = PV at *
  simp -implicitDefEqProofs [k3_9] at ih
  have wm : 0 < i → IntKind.i64.wrap ((i : Int) - 1) = ((i - 1 : Nat) : Int) := fun h => (wrap64 (by omega) (by omega)).trans (by omega)
  have bsk : ∀ d n, below (d + 1) n skipV = true := fun d n => rfl
  have hcase : (¬ 0 < i) ∨ ∃ (q : Value) (m' : Pt), 0 < i ∧ indexAddrT (.sl 29 ⟨some false, some 1⟩) OV (.int .i64 ((i - 1 : Nat) : Int)) = some (cptr q) ∧ fitsTT ⟨some false, some 1⟩ q = true ∧ indexAddrT (.sl 32 ⟨some true, some 2⟩) q (.int .i64 0) = some (cptr (.agg ⟨[.int .i64 m'.1, .int .i64 m'.2]⟩)) ∧ ltPo m' m = true ∧ (∀ d n, below (d + 1) n q = true) := by
   by_cases hi0 : 0 < i
   ·right
    have hi1 : i - 1 < O.length := by omega
    obtain ⟨q1', _, _, m', r', q4', _⟩ := o1 _ (List.getElem_mem hi1)
    refine ⟨lst false (spanR.vals O[i - 1]), m', hi0, ixO (i - 1) hi1, rfl, ?_, ?_, fun d n => rfl⟩
    ·rw [q4']; exact Rec.index_tree (R := spanR) (l := m' :: r') (i := 0) rfl (by simp)
    ·have := List.pairwise_iff_getElem.1 o5 (i - 1) i hi1 hi (by omega)
     rw [q4', hv, q4] at this
     exact this
   ·exact .inl hi0
  rcases hcase with hi0 | ⟨qv, m', hi0, x1, x2, x3, x4, x5⟩
  case' inl =>
   have x5 := bO
   have hi0' : ¬ ((0 : Int) < (i : Int)) := by omega
   simp -implicitDefEqProofs [r3_9, k3_9, hi, lO, xi, fp, lp, h4, rm, hi0, hi0']
  case' inr =>
   have hi0' : (0 : Int) < (i : Int) := by omega
   have ls := less_spec m' m
   rw [x4] at ls
   have wm := wm hi0
   simp -implicitDefEqProofs [r3_9, k3_9, hi, lO, xi, fp, lp, h4, rm, hi0, hi0', wm, x1, x2, x3, i0, ret0 m7, ls]
  all_goals
   rw [LL_for (γ := Int × Int) (sidesP p) (D, T) (fun k c => [(11, .int .i64 (wr c.1)), (12, .int .i64 (wr c.2)), (15, .int .i64 k)]) (fun _ _ => []) (fun _ rest c => (.exit 2, [(11, .int .i64 (wr (c.1 + ssum (crossI x y) rest))), (12, .int .i64 (wr (c.2 + ssum shoeS rest))), (15, undef)], [])) (fun _ _ => True) (by omega) trivial]
   ·simp -implicitDefEqProofs [k3_17, wi, trim_le]
    exact ih
   ·simp -implicitDefEqProofs [k3_17]
   ·rfl
   ·intro nx k c hk _
    have hk' : ¬ ((k : Int) < (p.length : Int)) := by omega
    have es : ∀ φ : Sd → Int, ssum φ [] = 0 := fun _ => rfl
    simp -implicitDefEqProofs [r3_17, k3_17, lp, hk', es, trim_le]
   ·intro nx k s rest c hk hv hd hw _ ih
    obtain ⟨D, T⟩ := c
    have hs := q3 s (by rw [← hv]; exact List.getElem_mem hk)
    have hkp : k < p.length := by omega
    have hkp' : (k : Int) < (p.length : Int) := by omega
    have hm1 : (k + 1) % p.length < p.length := Nat.mod_lt _ (by omega)
    have es := Rg.sides_get hkp
    rw [hv] at es
    have es1 : p[k] = s.1 := by rw [es]
    have es2 : p[(k + 1) % p.length] = s.2 := by rw [es]
    have y1 := ixp k hkp
    have y2 := ixp _ hm1
    rw [es1] at y1
    rw [es2] at y2
    have hl0 := hlm k hkp
    rw [es1] at hl0
    have wk : IntKind.i64.wrap ((k : Int) + 1) = ((k + 1 : Nat) : Int) := (wrap64 (by omega) (by omega)).trans (by omega)
    have rmk := rem_nat (P := E.P) (t := 3) (m := k + 1) (n := p.length) (by omega)
    clear es es1 es2 hm1 q4 q5 o1 o2 o3 o5 o8
    generalize (k + 1) % p.length = kn at y2 rmk
    have wt := wrap_twice T (s.1.1 * s.2.2) (s.2.1 * s.1.2)
    have wt : IntKind.i64.wrap (IntKind.i64.wrap (wr T + IntKind.i64.wrap (s.1.1 * s.2.2)) - IntKind.i64.wrap (s.2.1 * s.1.2)) = wr (T + shoeS s) := wt
    have wd1 : IntKind.i64.wrap (wr D + 1) = wr (D + 1) := wrap_add1 D 1
    have wd2 : IntKind.i64.wrap (wr D - 1) = wr (D + -1) := (wrap_sub1 D 1).trans (by rw [Int.sub_eq_add_neg]; rfl)
    have ihg := fun c : Int => ih (D + c, T + shoeS s) trivial
    have ex : ∀ φ : Sd → Int, ssum φ (s :: rest) = φ s + ssum φ rest := fun φ => rfl
    simp only [ex, ← Int.add_assoc] at ihg ⊢
    generalize hZ1 : ssum (crossI x y) rest = Z1 at *
    generalize hZ2 : ssum shoeS rest = Z2 at *
    have ls := less_spec m s.1
    have ih0 := ihg 0
    have ih1 := ihg 1
    have ihm := ihg (-1)
    rw [Int.add_zero] at ih0
    have hz0 : crossI x y s = 0 → D + crossI x y s = D := fun h => by rw [h, Int.add_zero]
    simp -implicitDefEqProofs [k3_17, -Int.natCast_add] at ih0 ih1 ihm
    by_cases hk0 : 0 < k
    case' pos =>
     have hk0' : (0 : Int) < (k : Int) := by omega
     rw [hl0 hk0] at ls
    case' neg =>
     have hk0' : ¬ ((0 : Int) < (k : Int)) := by omega
    all_goals
     by_cases q1 : s.1.1 = s.2.1
     case neg =>
      have q2 : s.1.2 = s.2.2 := by
       rw [decide_eq_false q1] at hs
       by_cases h : s.1.2 = s.2.2
       ·exact h
       ·rw [decide_eq_false h] at hs; exact absurd rfl hs
      rw [q2] at wt ls
      rw [hz0 (by unfold crossI Rg.upS; rw [decide_eq_false q1, if_neg (by simp)])]
      simp -implicitDefEqProofs [r3_17, k3_17, hkp', lp, y1, y2, wk, rmk, hk0, hk0', i0, ret0 m7, ls, min_int, max_int, wt, wd1, wd2, trim_cut, bL, bA, bO, bP, bsk, x5, beq, -Int.natCast_add, q1, q2]
      exact ih0
     have q2 : ¬ s.1.2 = s.2.2 := by
      rw [decide_eq_true q1] at hs
      intro h
      rw [decide_eq_true h] at hs; exact absurd rfl hs
     rw [q1] at wt ls
     have hu : Rg.upS s = true := by unfold Rg.upS; exact decide_eq_true q1
     by_cases q3 : s.2.1 ≤ x
     case neg =>
      rw [hz0 (by unfold crossI; rw [if_neg (fun h => q3 h.2.1)])]
      simp -implicitDefEqProofs [r3_17, k3_17, hkp', lp, y1, y2, wk, rmk, hk0, hk0', i0, ret0 m7, ls, min_int, max_int, wt, wd1, wd2, trim_cut, bL, bA, bO, bP, bsk, x5, beq, -Int.natCast_add, q1, q2, q3]
      exact ih0
     by_cases q4 : min s.1.2 s.2.2 ≤ y
     case neg =>
      rw [hz0 (by unfold crossI; rw [if_neg (fun h => q4 h.2.2.1)])]
      simp -implicitDefEqProofs [r3_17, k3_17, hkp', lp, y1, y2, wk, rmk, hk0, hk0', i0, ret0 m7, ls, min_int, max_int, wt, wd1, wd2, trim_cut, bL, bA, bO, bP, bsk, x5, beq, -Int.natCast_add, q1, q2, q3, q4]
      exact ih0
     by_cases q5 : y < max s.1.2 s.2.2
     case neg =>
      rw [hz0 (by unfold crossI; rw [if_neg (fun h => q5 h.2.2.2)])]
      simp -implicitDefEqProofs [r3_17, k3_17, hkp', lp, y1, y2, wk, rmk, hk0, hk0', i0, ret0 m7, ls, min_int, max_int, wt, wd1, wd2, trim_cut, bL, bA, bO, bP, bsk, x5, beq, -Int.natCast_add, q1, q2, q3, q4, q5]
      exact ih0
     by_cases q6 : s.2.2 < s.1.2
     ·rw [show crossI x y s = 1 by unfold crossI; rw [if_pos ⟨hu, q3, q4, q5⟩, if_pos q6]]
      simp -implicitDefEqProofs [r3_17, k3_17, hkp', lp, y1, y2, wk, rmk, hk0, hk0', i0, ret0 m7, ls, min_int, max_int, wt, wd1, wd2, trim_cut, bL, bA, bO, bP, bsk, x5, beq, -Int.natCast_add, q1, q2, q3, q4, q5, q6]
      exact ih1
     ·rw [show crossI x y s = -1 by unfold crossI; rw [if_pos ⟨hu, q3, q4, q5⟩, if_neg q6]]
      simp -implicitDefEqProofs [r3_17, k3_17, hkp', lp, y1, y2, wk, rmk, hk0, hk0', i0, ret0 m7, ls, min_int, max_int, wt, wd1, wd2, trim_cut, bL, bA, bO, bP, bsk, x5, beq, -Int.natCast_add, q1, q2, q3, q4, q5, q6]
      exact ihm
end Go.Proofs.Ytcjdpkifooenkaa.Bm
