/-
  Chapter 25: the search, walked. Conditions: valid problems, areas that are not too great.
-/
import Derived.Test.YtcnafncmfiogcaaQI19
namespace Go.Proofs.Ytcnafncmfiogcaa.Bm
open Go Go.RowKit
open Cp (Q Br Acc Nd bump prQ mayQ validQ reach enter vis loopF next take us Small)
theorem call_vis (h : Heap) (v : Value) : aCall E (L E) 0 false visF [v] h = retCall E (L E) 0 false 42 [v, cAt 5 0, cAt 4 0, cAt 3 0, cAt 1 0, cAt 2 0, cAt 0 0, cAt 6 0] h := rfl
theorem sumB (A : List Int) (hA : ∀ a ∈ A, 0 ≤ a ∧ a ≤ 1099511627776) : 0 ≤ A.sum ∧ A.sum ≤ (A.length : Int) * 1099511627776 := by
  induction A with
  | nil => simp
  | cons a A ih =>
    have h1 := hA a List.mem_cons_self
    have h2 := ih fun b hb => hA b (List.mem_cons_of_mem a hb)
    rw [List.sum_cons, List.length_cons]
    omega
set_option maxHeartbeats 4000000 in
theorem vis_all (p : Pb) (hp : PbOk p) (hv : validQ p.q = true) (x : Bool) (A : List Int) (hA : AOk A) (n : Nat) (ih : ∀ m, n = m + 1 → VisN p x A m) : VisN p x A n := by
  intro s W a h ob hn hs hC h4 hsm
  have h13 := hA.len
  have hrl : s.rem.length = A.length - s.c.length := by rw [hs.rem, List.length_drop]
  have hle := hs.le
  have hra : ∀ r ∈ s.rem, 0 ≤ r ∧ r ≤ 1099511627776 := fun r hr => hA.a r (by rw [hs.rem] at hr; exact List.mem_of_mem_drop hr)
  have hvb := hs.vb hA
  have hob : ob ≠ some h.length := by
    obtain ⟨cv, _, h6⟩ := hC.ch
    rcases h6 with ⟨h6, _⟩ | ⟨b, R, h6, _, _, h7, _⟩
    · rw [h6]; simp
    · rw [h6]; intro k; have := gl h7; have := Option.some.inj k; omega
  have hS1 : (h ++ [stO (intE.o (some x) A) p W s.v])[h.length]? = some (stO (intE.o (some x) A) p W s.v) := app_get0
  obtain ⟨x17, x18, x19, x20, x21, x22, x23, x24, h2, e2, C2, E2⟩ := enter42 p x A W s hs hA (hC.app [stO (intE.o (some x) A) p W s.v]) hS1 hC.len hob (stV (intE.o (some x) A) p W s.v)
  have hS2 : h2[h.length]? = some (stO (intE.o (some x) A) p W s.v) := E2.keep h.length _ hC.len hob hS1
  have E2 := (Ext.app (ob := ob) (h := h) [stO (intE.o (some x) A) p W s.v]).trans E2
  have hbs := hC.len
  generalize hbl : h.length = bs at *
  have l11 : loadT ⟨some false, some 1⟩ h2 (.pointer (some ⟨bs, 11, none⟩)) = some (.int .i64 s.v) := obj_load (b := bs) (j := 11) hS2 (by
    unfold stC
    rw [List.getElem?_cons_succ, List.getElem?_append_right (by rw [pb_len]; omega), pb_len, List.getElem?_append_right (by rw [Enc.vals_len, hs.w]; omega), Enc.vals_len, hs.w]; rfl)
  have l1 : loadT ⟨some false, some 1⟩ h2 (cAt 1 0) = some (intE.o (some x) A) := obj_load C2.ar rfl
  obtain ⟨cv, l4, ch⟩ := C2.cho
  have l4 := l4 []
  have lc := ch.len []
  rw [List.append_nil] at l4 lc
  have dr : sliceT (.sl 3 ⟨some false, some 1⟩) h2 (intE.o (some x) A) (some (.int .i64 (s.c.length : Int))) none none = some (intE.o (some x) s.rem) := by
    rw [hs.rem]; exact Enc.drop_tree rfl hs.le
  have ln := fun h => Enc.o_len (O := intE) (h := h) (k := some x) (l := s.rem) Enc.ok_some
  have ix : ∀ (i : Nat) (hi : i < s.rem.length), indexAddrT (.sl 3 ⟨some false, some 1⟩) (intE.o (some x) s.rem) (.int .i64 (i : Int)) = some (cptr (.int .i64 s.rem[i])) := fun i hi => Enc.index_o (O := intE) Enc.ok_some hi
  rw [L_fn F42 rfl, r42_eq]
  unfold stV
  have h42e : h42 = .region [] [⟨some 8, none, false, .box 70 (.tmp 0)⟩] := rfl
  unfold stO at e2
  unfold stV at e2
  simp -implicitDefEqProofs [p42, h42e, hbl]
  rw [e2]
  unfold t42 sndC
  simp -implicitDefEqProofs [r42, l11, l1, l4, lc, dr, ln]
  rw [LL_for (γ := Int) s.rem s.v (fun i v => [(9, .int .i64 v), (32, .int .i64 i)]) (fun _ _ => h2) (fun _ rest v => (.exit 0, [(9, .int .i64 (v + rest.sum)), (32, undef)], h2)) (fun i v => 0 ≤ v ∧ v ≤ s.v + (i : Int) * 1099511627776) (by omega) ⟨hvb.1, by omega⟩]
  · have sb := sumB s.rem hra
    have lt : loadT ⟨some false, some 1⟩ h2 (cAt 2 0) = some (brR.sl 7 a.tree) := obj_load C2.tr rfl
    have ltl := Rec.sl_len (R := brR) (h := h2) (b := 7) (l := a.tree)
    have f0 : fieldAddrT ⟨some true, some 4⟩ (some (2, ⟨some false, some 1⟩)) (cAt 0 0) = some (cAt 0 2) := rfl
    have l2 : loadT ⟨some false, some 1⟩ h2 (cAt 0 2) = some (.int .i64 p.most) := obj_load C2.pr rfl
    have bb : buildT (.fs ⟨[.int .i64 0, .int .i64 0]⟩ ⟨[(0, 1), (1, 1)]⟩) #[(1, .int .i64 (min (s.v + s.rem.sum) p.most))] = some (.agg ⟨[.int .i64 0, .int .i64 (min (s.v + s.rem.sum) p.most)]⟩) := rfl
    have lb := lit_br h2 ⟨0, min (s.v + s.rem.sum) p.most⟩
    obtain ⟨h3', ap, h3, st3, C3, E3⟩ := C2.push ⟨0, min (s.v + s.rem.sum) p.most⟩ (by show a.tree.length ≤ 1000000; omega)
    simp only at ap st3 C3 E3 lb
    have hS3 : h3[bs]? = some (stO (intE.o (some x) A) p W s.v) := E3.keep bs _ hbs hob hS2
    have E3 := E2.trans E3
    have lt3 : loadT ⟨some false, some 1⟩ h3 (cAt 2 0) = some (brR.sl 7 (a.tree ++ [⟨0, min (s.v + s.rem.sum) p.most⟩])) := obj_load C3.tr rfl
    have i3 := Rec.index_row (R := brR) (h0 := 2) (t := 41) (g := some true) (b := 7) (l := a.tree ++ [⟨0, min (s.v + s.rem.sum) p.most⟩]) (i := a.tree.length) (k := .i64) rfl (by simp)
    have fi3 := Rec.field_row (R := brR) (b := 7) (n := 0) (f := 1) (l := a.tree ++ [⟨0, min (s.v + s.rem.sum) p.most⟩]) (i := a.tree.length) (k := ⟨some true, some 2⟩) (g := some false)
    have ld3 : loadT ⟨some false, some 1⟩ h3 (brR.at_ 7 (a.tree ++ [⟨0, min (s.v + s.rem.sum) p.most⟩]) a.tree.length 1) = some (.int .i64 (min (s.v + s.rem.sum) p.most)) := by
      rw [Rec.load_cell (R := brR) C3.row (by simp) (by decide), List.getElem_concat_length rfl]; rfl
    have lv3 : loadT ⟨some false, some 1⟩ h3 (cAt 5 0) = some (.int .i64 (if a.val < s.v then s.v else a.val)) := obj_load C3.va rfl
    have en : enter (prQ p.q) s a = ⟨if a.val < s.v then s.v else a.val, if a.val < s.v then s.c else a.best, a.tree ++ [⟨0, min (s.v + s.rem.sum) p.most⟩]⟩ := rfl
    have re : reach (prQ p.q) s = min (s.v + s.rem.sum) p.most := rfl
    simp -implicitDefEqProofs [k42_5, lt, ltl, f0, l2, minI, bb, lb, ap, st3, lt3, i3, fi3, ld3, lv3, -append_slice]
    refine ex_last (K := fun h' => ∃ ob', Cs p (some x) A h' (vis (prQ p.q) n s a) s.c ob' ∧ Ext h ob h' ob') ?_
    have C3 : Cs p (some x) A h3 (enter (prQ p.q) s a) s.c ob := C3
    rw [← re]
    have hev : (if a.val < s.v then s.v else a.val) = (enter (prQ p.q) s a).val := rfl
    rw [hev]
    obtain ⟨cv3, l43, ch3⟩ := C3.cho
    have l43 := l43 []
    have lc3 := ch3.len []
    rw [List.append_nil] at l43 lc3
    have lA := fun h => Enc.o_len (O := intE) (h := h) (k := some x) (l := A) Enc.ok_some
    have lar3 : loadT ⟨some false, some 1⟩ h3 (cAt 1 0) = some (intE.o (some x) A) := obj_load C3.ar rfl
    by_cases op : (enter (prQ p.q) s a).val < reach (prQ p.q) s
    case neg =>
      have hve : vis (prQ p.q) n s a = enter (prQ p.q) s a := by
        cases n with
        | zero => rfl
        | succ m => exact if_neg op
      rw [hve, LL_go]
      simp -implicitDefEqProofs [r42_13, k42_13, op, trim_le, -Prod.exists]
      exact ⟨ob, C3, E3⟩
    by_cases hcl : s.c.length < A.length
    case neg =>
      have h0 : n = 0 := by omega
      subst h0
      have hve : vis (prQ p.q) 0 s a = enter (prQ p.q) s a := rfl
      have hcl' : ¬ ((s.c.length : Int) < A.length) := by omega
      rw [hve, LL_go]
      simp -implicitDefEqProofs [r42_13, k42_13, op, l43, lc3, lar3, lA, hcl', trim_le, -Prod.exists]
      exact ⟨ob, C3, E3⟩
    obtain ⟨m, rfl⟩ : ∃ m, n = m + 1 := ⟨n - 1, by omega⟩
    have hcl' : ((s.c.length : Int) < A.length) := by omega
    have hvi : vis (prQ p.q) (m + 1) s a = loopF (vis (prQ p.q) m) (prQ p.q) s a.tree.length us (enter (prQ p.q) s a) := if_pos op
    rw [decide_eq_true op]
    refine LL_ex (α := Nat × Acc × Heap × Option Nat) (0, enter (prQ p.q) s a, h3, ob) (fun c => [(14, .int .i64 (c.1 : Int))]) (fun c => c.2.2.1) (fun r => r.1 = .exit 2 ∧ ∃ ob', Cs p (some x) A r.2.2 (vis (prQ p.q) (m + 1) s a) s.c ob' ∧ Ext h ob r.2.2 ob')
      (fun c => c.1 ≤ 6 ∧ Cs p (some x) A c.2.2.1 c.2.1 s.c c.2.2.2 ∧ Ext h3 ob c.2.2.1 c.2.2.2 ∧ a.tree.length < c.2.1.tree.length ∧ Small c.2.1.tree.length c.2.1.tree ∧ loopF (vis (prQ p.q) m) (prQ p.q) s a.tree.length (us.drop c.1) c.2.1 = vis (prQ p.q) (m + 1) s a) (fun c => 6 - c.1) ?_ ?_ rfl ?_
    · exact ⟨Nat.zero_le _, C3, Ext.refl, by rw [Cp.enter_len]; omega, Cp.small_enter hsm, hvi.symm⟩
    · simp -implicitDefEqProofs [k42_13]
    · intro nx c hc ihl
      obtain ⟨u, ac, hh, o⟩ := c
      obtain ⟨g1, g2, g3, g4, g5, g6⟩ := hc
      simp only at g1 g2 g3 g4 g5 g6 ihl ⊢
      have hSS := g3.keep bs _ hbs hob hS3
      have lhar : loadT ⟨some false, some 1⟩ hh (cAt 1 0) = some (intE.o (some x) A) := obj_load g2.ar rfl
      have lht : loadT ⟨some false, some 1⟩ hh (cAt 2 0) = some (brR.sl 7 ac.tree) := obj_load g2.tr rfl
      have ltl := Rec.sl_len (R := brR) (h := hh) (b := 7) (l := ac.tree)
      by_cases hu6 : u < 6
      case neg =>
        have e6 : u = 6 := by omega
        subst e6
        have g6 : ac = vis (prQ p.q) (m + 1) s a := g6
        simp -implicitDefEqProofs [r42_13, k42_13, trim_le, -Prod.exists]
        rw [← g6]
        exact ⟨o, g2, E3.trans g3⟩
      have hu6' : (u : Int) < 6 := by omega
      have huW : u < W.length := by rw [hs.w]; exact hu6
      obtain ⟨cv4, W', v', ok, g, q1, q2, q3, q4, q5, q6, q7, q8, q9⟩ := add_step p hp hv x A W hA s hs hcl g2 u huW
      by_cases ht4 : ac.tree.length ≤ 4000
      case neg =>
        have ht4' : ¬ ((ac.tree.length : Int) ≤ 4000) := by omega
        rw [Cp.loopF_full ht4] at g6
        simp -implicitDefEqProofs [r42_13, k42_13, hu6', q1, q2, lhar, lA, hcl', lht, ltl, ht4', trim_le, -Prod.exists]
        rw [← g6]
        exact ⟨o, g2, E3.trans g3⟩
      have ht4' : ((ac.tree.length : Int) ≤ 4000) := by omega
      have l8 : loadT ⟨some true, some 12⟩ hh (.pointer (some ⟨bs, 0, none⟩)) = some (.agg ⟨stC (intE.o (some x) A) p W s.v⟩) := obj_all (b := bs) hSS (st_len hs.w)
      have stX : storeT (some 12) (g ++ [AObj.cells 70 zSt 0]) 0 (.agg ⟨stC (intE.o (some x) A) p W' v'⟩) (.pointer (some ⟨g.length, 0, none⟩)) = some (g ++ [AObj.cells 70 (stC (intE.o (some x) A) p W' v') 0]) :=
        (obj_put (b := g.length) (n := 12) (lo := 0) (t := 70) (c := zSt) app_get0 rfl (st_len q4) (by decide) (Nat.zero_le _)).trans (congrArg some app_set0)
      unfold zSt at stX
      unfold stV at q3
      have hwu : IntKind.i64.wrap ((u : Int) + 1) = ((u + 1 : Nat) : Int) := (wrap64 (by omega) (by omega)).trans (by omega)
      have dr := Cp.us_drop hu6
      rw [dr] at g6
      have hh8 := g2.len
      cases ok
      · have hnn := q8 rfl
        rw [Cp.loopF_none ht4 hnn] at g6
        have ih2 := fun vs => ihl (u + 1, ac, trim hh.length vs (g ++ [AObj.cells 70 (stC (intE.o (some x) A) p W' v') 0]), o) (by show 6 - (u + 1) < 6 - u; omega)
          ⟨by show u + 1 ≤ 6; omega, (q5.app _).trim _ _ hh8, (g3.trans (q6.trans (Ext.app _))).trim _ _ g3.len (by simp; omega), g4, g5, g6⟩
        simp -implicitDefEqProofs [k42_13, -Prod.exists, -Int.natCast_add] at ih2
        simp -implicitDefEqProofs [r42_13, k42_13, hu6', q1, q2, lhar, lA, hcl', lht, ltl, ht4', l8, q3, stX, hwu, -Prod.exists, -Int.natCast_add]
        exact ih2 _
      · obtain ⟨t, n1, n2, n3, n4, n5⟩ := q9 rfl
        rw [Cp.loopF_some ht4 n1] at g6
        have CG := q5.app [AObj.cells 70 (stC (intE.o (some x) A) p W' v') 0]
        have lgt : loadT ⟨some false, some 1⟩ (g ++ [AObj.cells 70 (stC (intE.o (some x) A) p W' v') 0]) (cAt 2 0) = some (brR.sl 7 ac.tree) := obj_load CG.tr rfl
        have ig := Rec.index_row (R := brR) (h0 := 2) (t := 41) (g := some true) (b := 7) (l := ac.tree) (i := a.tree.length) (k := .i64) rfl g4
        have fg := Rec.field_row (R := brR) (b := 7) (n := 0) (f := 0) (l := ac.tree) (i := a.tree.length) (k := ⟨some true, some 2⟩) (g := some false)
        have ldg : loadT ⟨some false, some 1⟩ (g ++ [AObj.cells 70 (stC (intE.o (some x) A) p W' v') 0]) (brR.at_ 7 ac.tree a.tree.length 0) = some (.int .i64 ac.tree[a.tree.length].kids) := by
          rw [Rec.load_cell (R := brR) CG.row g4 (by decide)]; rfl
        have hk := g5 _ (List.getElem_mem g4)
        have hwk : IntKind.i64.wrap (ac.tree[a.tree.length].kids + 1) = ac.tree[a.tree.length].kids + 1 := wrap64 (by omega) (by omega)
        obtain ⟨sc, C1⟩ := CG.count a.tree.length g4
        generalize hG1 : (g ++ [AObj.cells 70 (stC (intE.o (some x) A) p W' v') 0]).set 7 (brR.row 41 (ac.tree.modify a.tree.length bump)) = G1 at *
        have E1 : Ext (g ++ [AObj.cells 70 (stC (intE.o (some x) A) p W' v') 0]) o G1 o := by rw [← hG1]; exact Ext.set (.inl (by decide))
        obtain ⟨cv5, m1, cv6, G2', m2, G2, m3, o2, C2', E2'⟩ := C1.more (u : Int) (by omega) hcl
        have lvi : loadT ⟨some false, some 1⟩ G2 (cAt 6 0) = some visF := obj_load C2'.vi rfl
        have hox : o ≠ some g.length := by
          obtain ⟨cv, _, h6⟩ := q5.ch
          rcases h6 with ⟨h6, _⟩ | ⟨b, R, h6, _, _, h7, _⟩
          · rw [h6]; simp
          · rw [h6]; intro k; have := gl h7; have := Option.some.inj k; omega
        have lX : loadT ⟨some true, some 12⟩ G2 (.pointer (some ⟨g.length, 0, none⟩)) = some (.agg ⟨stC (intE.o (some x) A) p W' v'⟩) := obj_all (b := g.length) ((E1.trans E2').keep _ _ q5.len hox app_get0) (st_len q4)
        have lin : ∀ h : Heap, buildSliceT (some ⟨3, 1, 8, .int .i64 0, ⟨some false, some 1⟩⟩) false h 1 #[(0, .int .i64 (u : Int))] = some (lst true (intE.vals [(u : Int)]), h) := fun h => lit_int h u
        have t1 : (ac.tree.modify a.tree.length bump).length = ac.tree.length := Cp.modify_len _ _ _
        rw [← n4] at C2'
        obtain ⟨h5, r1, o5, C5, E5⟩ := ih m rfl t W' ⟨ac.val, ac.best, ac.tree.modify a.tree.length bump⟩ G2 o2 (by omega) n2 C2' (by show (ac.tree.modify a.tree.length bump).length ≤ 4000; omega) (by
          show Small ((ac.tree.modify a.tree.length bump).length + 1) (ac.tree.modify a.tree.length bump)
          rw [t1]; exact Cp.small_bump g5 _)
        rw [n3] at r1
        unfold stV at r1
        have rc : retCall E (L E) 0 false 42 [.agg ⟨stC (intE.o (some x) A) p W' v'⟩, cAt 5 0, cAt 4 0, cAt 3 0, cAt 1 0, cAt 2 0, cAt 0 0, cAt 6 0] G2 = some (.tuple #[], trim G2.length [.tuple #[]] h5) := by
          rw [ret3t m42, r1]; rfl
        have C6 := C5.trim G2.length [.tuple #[]] C2'.len
        have E6 := E5.trim G2.length [.tuple #[]] (Nat.le_refl _) E5.len
        generalize trim G2.length [.tuple #[]] h5 = G5 at *
        rw [n4] at C6
        obtain ⟨cv7, y1, y2, cv8, y3, G6, y4, C7, E7⟩ := C6.less
        have hwc : IntKind.i64.wrap (((s.c.length + 1 : Nat) : Int) - 1) = (s.c.length : Int) := (wrap64 (by omega) (by omega)).trans (by omega)
        have EE := ((((g3.trans (q6.trans (Ext.app _))).trans E1).trans E2').trans E6).trans E7
        have gr := Cp.vis_grows (prQ p.q) m t ⟨ac.val, ac.best, ac.tree.modify a.tree.length bump⟩
        have sm := Cp.small_vis (prQ p.q) m t ⟨ac.val, ac.best, ac.tree.modify a.tree.length bump⟩ (by
          show Small ((ac.tree.modify a.tree.length bump).length + 1) (ac.tree.modify a.tree.length bump)
          rw [t1]; exact Cp.small_bump g5 _)
        have gr : ac.tree.length ≤ (vis (prQ p.q) m t ⟨ac.val, ac.best, ac.tree.modify a.tree.length bump⟩).tree.length := by rw [← t1]; exact gr
        have hlG : hh.length ≤ G6.length := by
          have a1 := q7
          have a2 := E1.len
          have a3 := E2'.len
          have a4 := E6.len
          have a5 := E7.len
          rw [List.length_append] at a2
          omega
        have ih2 := fun vs => ihl (u + 1, vis (prQ p.q) m t ⟨ac.val, ac.best, ac.tree.modify a.tree.length bump⟩, trim hh.length vs G6, o5) (by show 6 - (u + 1) < 6 - u; omega)
          ⟨by show u + 1 ≤ 6; omega, C7.trim _ _ hh8, EE.trim _ _ g3.len hlG, Nat.lt_of_lt_of_le g4 gr, sm, g6⟩
        simp -implicitDefEqProofs [k42_13, -Prod.exists, -Int.natCast_add] at ih2
        simp -implicitDefEqProofs [r42_13, k42_13, hu6', q1, q2, lhar, lA, hcl', lht, ltl, ht4', l8, q3, stX, lgt, ig, fg, ldg, hwk, sc, m1, lin, m2, m3, lvi, lX, call_vis, rc, y1, y2, hwc, y3, y4, hwu, -Prod.exists, -Int.natCast_add, -append_slice]
        exact ih2 _
  · simp -implicitDefEqProofs [k42_5]
  · rfl
  · intro nx i v hi _
    simp -implicitDefEqProofs [r42_5, k42_5, hi, trim_le]
  · intro nx i w rest v hi hv hd hw hb ih
    have hi2 : ((i : Int) < s.rem.length) := by omega
    have x1 := ix i hi
    rw [hv] at x1
    have hwa := hra w (by rw [← hv]; exact List.getElem_mem hi)
    have wv : IntKind.i64.wrap (v + w) = v + w := wrap64 (by omega) (by omega)
    have ih := ih (v + w) ⟨by omega, by omega⟩
    simp -implicitDefEqProofs [k42_5] at ih
    rw [List.sum_cons, ← Int.add_assoc]
    simp -implicitDefEqProofs [r42_5, k42_5, hi2, x1, wv, hw, trim_le]
    exact ih
end Go.Proofs.Ytcnafncmfiogcaa.Bm
