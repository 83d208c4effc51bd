/-
  Chapter 18: the statement on cells, walked. Conditions: a plan that fits in memory.
-/
import Derived.Test.YtimjfondgdhfcaaQC26
namespace Go.Proofs.Ytimjfondgdhfcaa.Bm
open Go Go.RowKit
open Rg (Rect Pt Zn rightP polyL comA comP comS Once cell bestW isO namesF inL areaL baseS ovF)

theorem baseS_cons {z : Zn} {n : Int} {W : List (Zn × Int)} : baseS ((z, n) :: W) = (if z.ov then 0 else n) + baseS W := rfl
theorem wZ_share {zs : List Zn} {a : List Rect} (ra : regB a = true) {i : Nat} (h : i < (wZ zs a).length) : ((wZ zs a)[i]).2 = comA a (cellsZ ((wZ zs a)[i]).1) := by
  have hl := wZ_leng (zs := zs) ra
  obtain ⟨_, e⟩ := wZ_get (zs := zs) ra (i := i) (by omega)
  rw [e]
set_option maxHeartbeats 4000000 in
theorem cells_law (p : Pl) (x y : Int) (a : List Rect) (hl : p.zs.length ≤ 9223372036854775807) : ∃ h', L E 6 [p.val, .int .i64 x, .int .i64 y, lst false (rectR.vals a)] [] 0 = some (.bool true, h') := by
  refine ⟨[plO p p.zv], ?_⟩
  have eo : ∀ l, lst false (rectR.vals l) = rectR.o (some false) l := fun _ => rfl
  rw [eo]
  have op0 := @op_bel
  have blz : ∀ d n, below (d + 1) n p.zv = true := fun d n => rfl
  have sm := small_spec
  have fa := few_spec p (rectR.o (some false) a) a.length (fun h => Rec.o_len Rec.ok_some) (fun _ _ => Rec.o_bel) hl
  have rp := fun h => p.reify h
  have sp := p.set
  have ro : ∀ h k l, reify E.P 8 h (rectR.o k l) = some (rectR.o k l) := fun _ _ _ => Rec.o_reify
  have so : ∀ k l, settled depth (rectR.o k l) = true := fun _ _ => Rec.o_set
  have lz : ∀ h, lenT .sl h p.zv = some (.int .i64 p.zs.length) := fun h => Rec.tree_len
  have iz : ∀ (j : Nat) (hj : j < p.zs.length), indexAddrT (.sl 49 ⟨some true, some 3⟩) p.zv (.int .i64 (j : Int)) = some (cptr ((znR p.y).val p.zs[j])) := fun j hj => Rec.index_tree rfl hj
  have hMp := fun hp => zmap_spec p hp
  have hSh := fun hp (hc : a.length ≤ 200) => shares_spec p hp (some false) a Rec.ok_some (by omega)
  have hOf := fun hp c (hc : c.length ≤ 200) => zof_spec p hp (some true) c Rec.ok_some hc
  rw [L_fn F6 rfl]
  unfold Pl.val Pl.cells at *
  generalize p.zv = ZV at *
  cases ha : fewB p.zs a.length
  · rw [ha] at fa
    simp -implicitDefEqProofs [r6, p6, ret0 m8, sm, ret0 m9, rp, ro, fa, plO]
  rw [ha] at fa
  obtain ⟨hp, ha24⟩ := fewB_ok ha
  have hMp := hMp hp
  have hSh := hSh hp (by omega)
  have hOf := hOf hp
  by_cases x0 : 0 ≤ x
  case neg =>
    have x0' : x < 0 := by omega
    simp -implicitDefEqProofs [r6, p6, ret0 m8, sm, ret0 m9, rp, ro, fa, plO, x0']
  have x0' : ¬ x < 0 := by omega
  by_cases y0 : 0 ≤ y
  case neg =>
    have y0' : y < 0 := by omega
    simp -implicitDefEqProofs [r6, p6, ret0 m8, sm, ret0 m9, rp, ro, fa, plO, x0', y0']
  have y0' : ¬ y < 0 := by omega
  by_cases x1 : x < 1048576
  case neg =>
    have x1' : 1048576 ≤ x := by omega
    simp -implicitDefEqProofs [r6, p6, ret0 m8, sm, ret0 m9, rp, ro, fa, plO, x0', y0', x1']
  have x1' : ¬ 1048576 ≤ x := by omega
  by_cases y1 : y < 1048576
  case neg =>
    have y1' : 1048576 ≤ y := by omega
    simp -implicitDefEqProofs [r6, p6, ret0 m8, sm, ret0 m9, rp, ro, fa, plO, x0', y0', x1', y1']
  have y1' : ¬ 1048576 ≤ y := by omega
  by_cases hm : mapI p.zs = 0
  case neg =>
    simp -implicitDefEqProofs [r6, p6, ret0 m8, sm, ret0 m9, rp, ro, fa, plO, x0', y0', x1', y1', ret0 m12, hMp, hm]
  rw [hm] at hMp
  obtain ⟨_, _, hov⟩ := mapI_ok hm
  have hX : 0 ≤ x ∧ x < 1048576 := ⟨x0, x1⟩
  have hY : 0 ≤ y ∧ y < 1048576 := ⟨y0, y1⟩
  have wx : IntKind.i64.wrap (x + 1) = x + 1 := wrap64 (by omega) (by omega)
  have wy : IntKind.i64.wrap (y + 1) = y + 1 := wrap64 (by omega) (by omega)
  have hOf := hOf [⟨x, y, x + 1, y + 1⟩] (by show 1 ≤ 200; omega)
  have hOf1 : pureCall E.P (L E) 18 [.agg ⟨[opV p.d, opV p.t, ZV, opV p.r, opV p.c, opV p.v, opV p.s, .int .i64 p.h]⟩, lst true [.agg ⟨[.int .i64 x, .int .i64 y, .int .i64 (x + 1), .int .i64 (y + 1)]⟩]] = some (sT false (namesZ p.zs [⟨x, y, x + 1, y + 1⟩])) := hOf
  have s1 : ∀ l, settled depth (lst true l) = true := fun _ => rfl
  have hch := fun (i : Nat) (hi : i < (wZ p.zs [⟨x, y, x + 1, y + 1⟩]).length) => chosen_unit hov hX hY hi
  have hwl := wZ_leng (zs := p.zs) (unit_reg hX hY)
  have iW : ∀ (j : Nat) (hj : j < (wZ p.zs [⟨x, y, x + 1, y + 1⟩]).length), indexAddrT (.sl 49 ⟨some true, some 3⟩) ZV (.int .i64 (j : Int)) = some (cptr ((znR p.y).val ((wZ p.zs [⟨x, y, x + 1, y + 1⟩])[j]).1)) := fun j hj => by
    obtain ⟨h, e⟩ := wZ_zone hj
    rw [e]
    exact iz j h
  have cW : ∀ (j : Nat) (hj : j < (wZ p.zs [⟨x, y, x + 1, y + 1⟩]).length), ((wZ p.zs [⟨x, y, x + 1, y + 1⟩])[j]).1.cs.length ≤ 64 := fun j hj => by
    obtain ⟨h, e⟩ := wZ_zone hj
    rw [e]
    exact hp.cor _ (List.getElem_mem h)
  have lN := fun h => sT_len (h := h) (x := false) (l := namesZ p.zs [⟨x, y, x + 1, y + 1⟩])
  have iN := fun (i : Nat) (hi : i < (namesZ p.zs [⟨x, y, x + 1, y + 1⟩]).length) => sT_index (x := false) hi
  have hNl : (namesZ p.zs [⟨x, y, x + 1, y + 1⟩]).length ≤ (wZ p.zs [⟨x, y, x + 1, y + 1⟩]).length := Rg.namesF_len _ _ _
  have hNd : namesZ p.zs [⟨x, y, x + 1, y + 1⟩] = namesF (bestW 0 none (wZ p.zs [⟨x, y, x + 1, y + 1⟩])) 0 (wZ p.zs [⟨x, y, x + 1, y + 1⟩]) := rfl
  have bN : ∀ d n, below (d + 1) n (sT false (namesZ p.zs [⟨x, y, x + 1, y + 1⟩])) = true := fun _ _ => rfl
  generalize namesZ p.zs [⟨x, y, x + 1, y + 1⟩] = N at *
  generalize sT false N = NV at *
  generalize wZ p.zs [⟨x, y, x + 1, y + 1⟩] = W at *
  have hl6 := hp.len
  simp -implicitDefEqProofs [r6, p6, ret0 m8, sm, ret0 m9, rp, ro, fa, x0', y0', x1', y1', ret0 m12, hMp, wx, wy, b4_all, lit_rect, ret1 m18, sp, s1, hOf1]
  clear hOf hOf1 fa hMp ha
  generalize bestW 0 none W = o at *
  rw [LL_for (γ := Nat) W 0 (fun i c => [(11, .int .i64 (c : Int)), (12, .int .i64 i)]) (fun i _ => [plO p ZV])
    (fun i rest c => (.exit 0, [(11, .int .i64 (((c + (namesF o i rest).length : Nat)) : Int)), (12, undef)], [plO p ZV])) (fun i c => c ≤ i ∧ N.drop c = namesF o i (W.drop i)) (by omega) ⟨Nat.le_refl _, by rw [List.drop_zero, List.drop_zero]; exact hNd⟩]
  · rw [Nat.zero_add, ← hNd]
    have qa := rright2_spec (some false) a Rec.ok_some (by omega)
    have ar := rarea_spec (some false) a Rec.ok_some (by omega)
    cases ra : regB a
    · rw [ra] at qa
      have eS : sharesV p.zs a = .slice none 0 0 := by unfold sharesV; rw [ra]; rfl
      rw [eS] at hSh
      simp -implicitDefEqProofs [k6_7, lN, plO, ret1 m15, sp, so, hSh, ret0 m20, ro, qa]
    · rw [ra] at qa ar
      rw [if_pos rfl] at ar
      have hbs := base_sum hov ra
      have ln := sharesV_len p.zs a
      have ix : ∀ (i : Nat) (hi : i < (wZ p.zs a).length), _ := fun i hi => sharesV_index (zs := p.zs) (a := a) hi
      have hwl2 := wZ_leng (zs := p.zs) ra
      have iW2 : ∀ (j : Nat) (hj : j < (wZ p.zs a).length), indexAddrT (.sl 49 ⟨some true, some 3⟩) ZV (.int .i64 (j : Int)) = some (cptr ((znR p.y).val ((wZ p.zs a)[j]).1)) := fun j hj => by
        obtain ⟨h, e⟩ := wZ_zone hj
        rw [e]
        exact iz j h
      have hsh2 := fun (i : Nat) (hi : i < (wZ p.zs a).length) => wZ_share (zs := p.zs) ra hi
      have bnd : ∀ z, 0 ≤ comA a (cellsZ z) ∧ comA a (cellsZ z) ≤ 219902325555200 * 24 := fun z => by
        have h1 := comA_le (reg_ok (cellsZ_reg z)).1 (reg_ok (cellsZ_reg z)).2 (reg_ok ra).1
        exact ⟨Rg.comA_nonneg _ _, by omega⟩
      rw [hwl2] at ln
      generalize sharesV p.zs a = SV at *
      generalize wZ p.zs a = W2 at *
      simp -implicitDefEqProofs [k6_7, lN, plO, ret1 m15, sp, so, hSh, ret0 m20, ro, qa]
      rw [LL_for (γ := Int) W2 0 (fun i c => [(14, .int .i64 c), (15, .int .i64 i)]) (fun i _ => [plO p ZV]) (fun i rest c => (.exit 2, [(14, .int .i64 (c + baseS rest)), (15, undef)], [plO p ZV])) (fun i c => 0 ≤ c ∧ c ≤ 5277655813324800 * i) (by omega) ⟨Int.le_refl _, by simp⟩]
      · rw [Int.zero_add]
        simp -implicitDefEqProofs [k6_20, ln, lz, ret0 m25, ro, ar, hbs, plO]
      · simp -implicitDefEqProofs [k6_20]
      · rfl
      · intro nx i c hi _
        rw [hwl2] at hi
        have e1 : c + baseS [] = c := Int.add_zero c
        simp -implicitDefEqProofs [r6_20, k6_20, hi, ln, lz, e1, trim_le, plO]
      · intro nx i v rest c hi hv hd hw hc ih
        obtain ⟨z, n⟩ := v
        have hiz : i < p.zs.length := by omega
        have hi' : (i : Int) < (p.zs.length : Int) := by omega
        have xx := ix i hi
        have zz := iW2 i hi
        have sh := hsh2 i hi
        rw [hv] at xx zz sh
        rw [zn_val] at zz
        simp only at xx zz sh
        have bd := bnd z
        rw [← sh] at bd
        rw [baseS_cons]
        cases hov2 : z.ov
        · rw [hov2] at zz
          have wn : IntKind.i64.wrap (c + n) = c + n := wrap64 (by omega) (by omega)
          have ih := ih (c + n) ⟨by omega, by omega⟩
          have e1 : c + ((if false = true then (0 : Int) else n) + baseS rest) = c + n + baseS rest := by rw [if_neg Bool.false_ne_true]; omega
          rw [e1]
          simp -implicitDefEqProofs [k6_20, plO] at ih
          simp -implicitDefEqProofs [r6_20, k6_20, hiz, hi', ln, lz, xx, zz, wn, hw, trim_le, plO]
          exact ih
        · rw [hov2] at zz
          have ih := ih c ⟨by omega, by omega⟩
          have e1 : c + ((if true = true then (0 : Int) else n) + baseS rest) = c + baseS rest := by rw [if_pos rfl]; omega
          rw [e1]
          simp -implicitDefEqProofs [k6_20, plO] at ih
          simp -implicitDefEqProofs [r6_20, k6_20, hiz, hi', ln, lz, zz, hw, trim_le, plO]
          exact ih
  · simp -implicitDefEqProofs [k6_7]
  · rfl
  · intro nx i c hi _
    have e1 : ∀ i, (namesF o i []).length = 0 := fun _ => rfl
    rw [hwl] at hi
    simp -implicitDefEqProofs [r6_7, k6_7, hi, lz, e1, trim_le, plO]
  · intro nx i v rest c hi hv hd hw hc ih
    obtain ⟨z, n⟩ := v
    obtain ⟨hci, hcd⟩ := hc
    rw [hd, Rg.namesF_step] at hcd
    have hiz : i < p.zs.length := by omega
    have hi' : (i : Int) < (p.zs.length : Int) := by omega
    have z1 := iW i hi
    have ch := hch i hi
    have cz := cW i hi
    rw [hv] at z1 ch cz
    have rc := rcells_spec p.y z cz
    have zset : settled depth ((znR p.y).val z) = true := rfl
    rw [zn_val] at z1 rc zset
    simp only at ch
    have rh := rhas_spec (kR (polyX z.cs)) (cellsZ z) x y (kR_ok _) (by have := (reg_ok (cellsZ_reg z)).2; omega)
    rw [cellsZ_reg z, Bool.true_and] at rh
    rw [Rg.namesF_step]
    rw [ch] at hcd ⊢
    have wc : IntKind.i64.wrap ((c : Int) + 1) = ((c + 1 : Nat) : Int) := (wrap64 (by omega) (by omega)).trans (by omega)
    have hd1 : W.drop (i + 1) = rest := by
      have := congrArg (List.drop 1) hd
      rw [List.drop_drop] at this
      exact this
    clear ch hch hd
    cases hI : cell (cellsZ z) x y
    · rw [hI] at rh hcd
      have keep := ih c ⟨by omega, by rw [hcd, hd1]; rfl⟩
      simp -implicitDefEqProofs [k6_7, plO, -Int.natCast_add] at keep
      simp -implicitDefEqProofs [r6_7, k6_7, hiz, hi', lz, z1, ret1 m23, zset, rc, ret0 m24, ro, rh, plO, hw, trim_le, -Int.natCast_add]
      exact keep
    · rw [hI] at rh hcd
      have take := ih (c + 1) ⟨by omega, by
        have := congrArg (List.drop 1) hcd
        rw [List.drop_drop] at this
        rw [hd1]; exact this⟩
      obtain ⟨h1, h2⟩ : ∃ h : c < N.length, N[c] = z.nm := by
        have h1 : (N.drop c)[0]? = some z.nm := by rw [hcd]; rfl
        rw [List.getElem?_drop, Nat.add_zero] at h1
        obtain ⟨h, e⟩ := List.getElem?_eq_some_iff.1 h1
        exact ⟨h, e⟩
      have h1' : ¬ ((N.length : Int) ≤ (c : Int)) := by omega
      have h1'' : ¬ (N.length ≤ c) := by omega
      have n1 := iN c h1
      rw [h2] at n1
      simp -implicitDefEqProofs [k6_7, plO, -Int.natCast_add] at take
      simp only [Nat.add_assoc, Nat.add_comm 1] at take
      simp -implicitDefEqProofs [r6_7, k6_7, hiz, hi', lz, lN, z1, n1, ret1 m23, zset, rc, ret0 m24, ro, rh, h1', h1'', wc, plO, hw, trim_le, -Int.natCast_add]
      exact take
end Go.Proofs.Ytimjfondgdhfcaa.Bm
