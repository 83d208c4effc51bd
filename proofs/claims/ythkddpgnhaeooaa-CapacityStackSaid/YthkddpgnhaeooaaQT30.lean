/-
 Chapter 08: a form's slabs, plain: what the walk through them leaves. Conditions: forms.
-/
import Derived.Test.YthkddpgnhaeooaaQT20
import Derived.Test.YthkddpgnhaeooaaQT29
import Derived.Test.YthkddpgnhaeooaaQT17
namespace Go.Proofs.Ythkddpgnhaeooaa.Bm
open Go Go.RowKit
open Rg (Rect Slab comC comI comI_cons)
theorem so58 : szOf E.P 73 = some 2 := by kernel_rfl
theorem ao58 : aggT E.P 73 = some true := by kernel_rfl
theorem lit_ospan (h : Heap) (a b : Int) : buildSliceT (some ⟨73, 2, 16, .agg ⟨[.int .i64 0, .int .i64 0]⟩, ⟨some true, some 2⟩⟩) false h 1 #[(0, .agg ⟨[.int .i64 a, .int .i64 b]⟩)] = some (lst true [.agg ⟨[.int .i64 a, .int .i64 b]⟩], h) :=
 (build_lit' (n := 1) (l := [(0, .agg ⟨[.int .i64 a, .int .i64 b]⟩)]) rfl rfl (by decide) (by decide) (by decide)).trans rfl
theorem app_ospan {h : Heap} {b lo : Nat} {c : List (Int × Int)} (u v : Int) (hob : h[b]? = some (spanR.row 73 c)) (hlo : lo ≤ b) (hc : c.length ≤ 100000000) :
  appendT (some ⟨73, 2, 16, .agg ⟨[.int .i64 0, .int .i64 0]⟩, ⟨some true, some 2⟩⟩) h lo false (spanR.sl b c) (lst true [.agg ⟨[.int .i64 u, .int .i64 v]⟩]) = some (spanR.sl b (c ++ [(u, v)]), h.set b (spanR.row 73 (c ++ [(u, v)]))) :=
 Rec.app (R := spanR) (m := [(u, v)]) rfl hob (Rec.cells_tree (R := spanR) rfl [(u, v)]) hlo (by show (c.length + 1) * 16 ≤ 2 ^ 47; omega)
theorem comI_len (s : Int × Int) (b : List (Int × Int)) : (comI s b).length ≤ b.length := List.length_filterMap_le _ _
set_option maxHeartbeats 1000000 in
theorem common_cols (k m : Option Bool) (a b : List (Int × Int)) (hk : Rec.Ok k a) (hm : Rec.Ok m b) (ha : a.length ≤ 1000) (hb : b.length ≤ 1000) : pureCall E.P (L E) 48 [spanR.o k a, spanR.o m b] = some (lst false (spanR.vals (comC a b))) := by
 rw [pureCall_fn F48 rfl]
 simp -implicitDefEqProofs [r48, p48, prep_new, newK_nil so58, Rec.o_len hk]
 rw [LL_for (γ := List (Int × Int)) a [] (fun i c => [(5, spanR.sl 0 c), (13, .int .i64 i)]) (fun _ c => [spanR.row 73 c])
  (fun _ rest c => (.exit 0, [(5, spanR.sl 0 (c ++ comC rest b)), (13, undef)], [spanR.row 73 (c ++ comC rest b)])) (fun i c => c.length ≤ i * 1000) (by omega) (Nat.zero_le _)]
 ·have rr := Rec.reifyR_row (R := spanR) (P := E.P) (h := [spanR.row 73 (comC a b)]) (b := 0) (t := 73) (l := comC a b) rfl so58 ao58
  simp -implicitDefEqProofs [k48_3, rr]
 ·simp -implicitDefEqProofs [k48_3, Rec.sl_nil]
 ·rfl
 ·intro nx i c hi _
  simp -implicitDefEqProofs [r48_3, k48_3, hi, trim_le, comC]
 ·intro nx i s rest c hi hv hd hw hc ih
  have ixi := Rec.o_index (R := spanR) (t := 73) (kk := .i64) (s := 2) rfl hk hi
  rw [hv] at ixi
  have hcl := comI_len s b
  have ih := ih (c ++ comI s b) (by rw [List.length_append]; omega)
  have ec : comC (s :: rest) b = comI s b ++ comC rest b := rfl
  rw [ec, ← List.append_assoc]
  simp -implicitDefEqProofs [k48_3, -List.append_assoc] at ih
  simp -implicitDefEqProofs [r48_3, k48_3, hi, ixi, Rec.o_len hm, span_val, -List.append_assoc]
  rw [LL_for (γ := List (Int × Int)) b c (fun j o => [(5, spanR.sl 0 o), (19, .int .i64 j)]) (fun _ o => [spanR.row 73 o, .cells 73 [.int .i64 s.1, .int .i64 s.2] 0])
   (fun _ rest o => (.exit 2, [(5, spanR.sl 0 (o ++ comI s rest)), (19, undef)], [spanR.row 73 (o ++ comI s rest), .cells 73 [.int .i64 s.1, .int .i64 s.2] 0])) (fun j o => o.length ≤ c.length + j) (by omega) (Nat.le_refl _)]
  ·simp -implicitDefEqProofs [k48_6, hw, trim_cut, Rec.sl_bel, Rec.row_bel, Rec.o_bel, -List.append_assoc]
   exact ih
  ·simp -implicitDefEqProofs [k48_6]
  ·rfl
  ·intro nx j o hj _
   have e0 : comI s [] = [] := rfl
   simp -implicitDefEqProofs [r48_6, k48_6, hj, e0, trim_le]
  ·intro nx j u rest' o hj hv' hd' hw' ho ih
   have ixj := Rec.o_index (R := spanR) (t := 73) (kk := .i64) (s := 2) rfl hm hj
   rw [hv'] at ixj
   rw [comI_cons]
   by_cases hlt : max s.1 u.1 < min s.2 u.2
   ·have ap := fun q q' q'' => app_ospan (h := [spanR.row 73 o, q, q', q'']) (b := 0) (lo := 0) (c := o) (max s.1 u.1) (min s.2 u.2) rfl (Nat.le_refl _) (by omega)
    have ih := ih (o ++ [(max s.1 u.1, min s.2 u.2)]) (by simp; omega)
    rw [if_pos hlt, ← List.append_assoc]
    simp -implicitDefEqProofs [k48_6, -List.append_assoc] at ih
    simp -implicitDefEqProofs [r48_6, k48_6, hj, ixj, span_val, max_int, min_int, b2_all, hlt, hw', lit_ospan, ap, trim_cut, Rec.sl_bel, Rec.row_bel, Rec.o_bel, -List.append_assoc]
    exact ih
   ·have ih := ih o (by omega)
    rw [if_neg hlt, List.nil_append]
    simp -implicitDefEqProofs [k48_6] at ih
    simp -implicitDefEqProofs [r48_6, k48_6, hj, ixj, span_val, max_int, min_int, b2_all, hlt, hw', trim_cut, Rec.sl_bel, Rec.row_bel, Rec.o_bel]
    exact ih
def kc (c : List (Int × Int)) : Option Bool := if c = [] then none else some false
theorem kc_ok (c : List (Int × Int)) : Rec.Ok (kc c) c := fun h => by
 unfold kc at h
 split at h
 ·assumption
 ·cases h
def ocol (c : List (Int × Int)) : Value := spanR.o (kc c) c
theorem ocol_set {c : List (Int × Int)} {n : Nat} : settled (n + 1) (ocol c) = true := Rec.o_set
def oslabR : Rec Slab where
 enc s := [.int .i64 s.x0, .int .i64 s.x1, ocol s.col]
 m := 2
 len _ := rfl
 set s := by
  unfold ocol kc
  split <;> rfl
 bel s n := by
  unfold ocol kc
  split <;> rfl
theorem oslab_val {s : Slab} : oslabR.val s = .agg ⟨[.int .i64 s.x0, .int .i64 s.x1, ocol s.col]⟩ := rfl
theorem so52 : szOf E.P 67 = some 3 := by kernel_rfl
theorem ao52 : aggT E.P 67 = some true := by kernel_rfl
def wH (x d : Int) (w : Rg.Win) (k : Option Bool) : Heap := [.cells 3 [.int .i64 x] 0, .cells 3 [.int .i64 d] 0, .cells 3 [.int .i64 w.next] 0, .cells 4 [.bool w.gap] 0, .cells 4 [.bool w.first] 0, .cells 65 [spanR.o k w.out] 0]
def wP (b : Nat) : Value := .pointer (some ⟨b, 0, none⟩)
def wk (x d : Int) (w : Rg.Win) (k : Option Bool) (s : Slab) : Option Bool :=
 if w.gap = true ∨ s.x1 ≤ w.next ∨ x + d < s.x0 then k
 else if w.next < s.x0 then k
 else if w.first = true then kc s.col
 else some false
theorem win1 (x d : Int) (w : Rg.Win) (k : Option Bool) (s : Slab) (q : AObj) (hw : IntKind.i64.wrap (x + d) = x + d) (hk : Rec.Ok k w.out) (ho : w.out.length ≤ 1000) (hs : s.col.length ≤ 1000) :
  ∃ z, L E 47 [oslabR.val s, wP 3, wP 2, wP 0, wP 1, wP 4, wP 5] (wH x d w k ++ [q]) 0 = some (.tuple #[], wH x d (Rg.wstep x d w s) (wk x d w k s) ++ [q, z]) := by
 obtain ⟨next, gap, first, out⟩ := w
 simp only at hk ho
 have hcm := common_cols k (kc s.col) out s.col hk (kc_ok _) ho hs
 change pureCall _ _ _ [_, ocol s.col] = _ at hcm
 have ofit : ∀ {sz : Option Nat} c, fitsTT ⟨some false, sz⟩ (ocol c) = true := fun c => Rec.o_fits
 have ocells : ∀ c, cellsOf (ocol c) = some [ocol c] := fun c => Rec.o_cellsOf
 have eoc : ∀ c, spanR.o (kc c) c = ocol c := fun _ => rfl
 have eo : ∀ l, spanR.o (some false) l = lst false (spanR.vals l) := fun _ => rfl
 have so1 : settled depth (spanR.o k out) = true := Rec.o_set
 have so2 : settled depth (ocol s.col) = true := ocol_set
 rw [L_fn F47 rfl]
 unfold Rg.wstep wk wH wP
 simp only
 have hc3 : ([Value.int .i64 s.x0, Value.int .i64 s.x1, ocol s.col] : List Value).all (settled 8) = true := oslabR.set s
 have fz := frz_ptr8 (P := E.P) (lo := 0) (h := [.cells 3 [.int .i64 x] 0, .cells 3 [.int .i64 d] 0, .cells 3 [.int .i64 next] 0, .cells 4 [.bool false] 0, .cells 4 [.bool true] 0, .cells 65 [spanR.o k out] 0, q, .cells 67 [.int .i64 s.x0, .int .i64 s.x1, ocol s.col] 0]) (b := 7) (t := 67) (c := [.int .i64 s.x0, .int .i64 s.x1, ocol s.col]) rfl so52 ao52 (Nat.zero_le _)
 rw [if_pos hc3] at fz
 simp only [Option.map_some] at fz
 cases gap
 case true => exact ⟨.cells 67 [.int .i64 s.x0, .int .i64 s.x1, ocol s.col] 0, by simp -implicitDefEqProofs [r47, padS, oslab_val]⟩
 by_cases c1 : s.x1 ≤ next
 ·exact ⟨.cells 67 [.int .i64 s.x0, .int .i64 s.x1, ocol s.col] 0, by simp -implicitDefEqProofs [r47, padS, oslab_val, c1]⟩
 by_cases c2 : x + d < s.x0
 ·exact ⟨.cells 67 [.int .i64 s.x0, .int .i64 s.x1, ocol s.col] 0, by simp -implicitDefEqProofs [r47, padS, oslab_val, c1, c2, hw]⟩
 by_cases c3 : next < s.x0
 ·exact ⟨.cells 67 [.int .i64 s.x0, .int .i64 s.x1, ocol s.col] 0, by simp -implicitDefEqProofs [r47, padS, oslab_val, c1, c2, c3, hw]⟩
 cases first
 ·refine ⟨.cells 67 [.int .i64 s.x0, .int .i64 s.x1, ocol s.col] 0, ?_⟩
  simp -implicitDefEqProofs [r47, padS, oslab_val, c1, c2, c3, hw, ret1 m48, so1, so2, hcm, eo]
 ·refine ⟨.dead, ?_⟩
  simp -implicitDefEqProofs [r47, padS, oslab_val, c1, c2, c3, hw, prep_frz, prep_still, fz, rop_loadC, isCp_cptr, eoc, ofit, ocells]
def wF (x d : Int) (c : Rg.Win × Option Bool) (s : Slab) : Rg.Win × Option Bool := (Rg.wstep x d c.1 s, wk x d c.1 c.2 s)
theorem wF_fst (x d : Int) : ∀ (T : List Slab) (c : Rg.Win × Option Bool), (T.foldl (wF x d) c).1 = T.foldl (Rg.wstep x d) c.1
 | [], _ => rfl
 | s :: T, c => by rw [List.foldl_cons, List.foldl_cons, wF_fst x d T]; rfl
theorem asc_len : ∀ {L M : List Int}, L.Pairwise (· < ·) → M.Pairwise (· < ·) → (∀ z ∈ L, z ∈ M) → L.length ≤ M.length
 | [], _, _, _, _ => Nat.zero_le _
 | z :: L, [], _, _, h => absurd (h z (by simp)) List.not_mem_nil
 | z :: L, m :: M, hL, hM, h => by
  rw [List.pairwise_cons] at hL hM
  by_cases e : z = m
  ·have := asc_len hL.2 hM.2 fun y hy => by
    rcases List.mem_cons.1 (h y (by simp [hy])) with h1 | h1
    ·have h2 := hL.1 y hy; omega
    ·exact h1
   simpa using this
  ·have hz : z ∈ M := (List.mem_cons.1 (h z (by simp))).resolve_left e
   have hzm := hM.1 z hz
   have := asc_len (L := z :: L) (List.pairwise_cons.2 hL) hM.2 fun y hy => by
    rcases List.mem_cons.1 (h y hy) with h1 | h1
    ·rcases List.mem_cons.1 hy with h2 | h2
     ·exact absurd (h2 ▸ h1) e
     ·have := hL.1 y h2; omega
    ·exact h1
   exact Nat.le_succ_of_le this
theorem canS_starts : ∀ {c : List (Int × Int)} {b : Int}, Rg.canS b c → (c.map (·.1)).Pairwise (· < ·) ∧ ∀ z ∈ c.map (·.1), b < z
 | [], _, _ => ⟨.nil, fun z hz => absurd hz List.not_mem_nil⟩
 | (f, t) :: c, b, h => by
  obtain ⟨i1, i2⟩ := canS_starts h.2.2
  have h1 := h.1
  have h2 := h.2.1
  refine ⟨List.pairwise_cons.2 ⟨fun z hz => by have := i2 z hz; show f < z; omega, i1⟩, fun z hz => ?_⟩
  rcases List.mem_cons.1 hz with rfl | hz
  ·exact h1
  ·have := i2 z hz; omega
theorem comC_len {a b : List (Int × Int)} (ha : Rg.Can a) (hb : Rg.Can b) : (comC a b).length ≤ a.length + b.length := by
 obtain ⟨m, hm⟩ := ha.canS
 obtain ⟨n, hn⟩ := hb.canS
 have h1 := (canS_starts (Rg.comC_can hm hn)).1
 have h2 := asc_len h1 (Rg.sortU_asc (a.map (·.1) ++ b.map (·.1))) fun z hz => by
  rw [Rg.sortU_mem, List.mem_append]
  obtain ⟨s, hs, rfl⟩ := List.mem_map.1 hz
  obtain ⟨u, hu, hs⟩ := List.mem_flatMap.1 hs
  obtain ⟨v, hv, e⟩ := List.mem_filterMap.1 hs
  split at e
  ·cases e
   rcases Int.le_total u.1 v.1 with q | q
   ·exact .inr (List.mem_map.2 ⟨v, hv, by show v.1 = max u.1 v.1; omega⟩)
   ·exact .inl (List.mem_map.2 ⟨u, hu, by show u.1 = max u.1 v.1; omega⟩)
  ·cases e
 have h3 := sortU_len (a.map (·.1) ++ b.map (·.1))
 simp only [List.length_map, List.length_append] at h2 h3
 omega
theorem wF_ok (x d : Int) (c : Rg.Win × Option Bool) (s : Slab) (h : Rec.Ok c.2 c.1.out) : Rec.Ok (wF x d c s).2 (wF x d c s).1.out := by
 obtain ⟨⟨next, gap, first, out⟩, k⟩ := c
 unfold wF wk Rg.wstep
 simp only at h ⊢
 split
 ·exact h
 ·split
  ·exact h
  ·split
   ·exact kc_ok _
   ·exact Rec.ok_some
theorem wF_len (x d : Int) (c : Rg.Win × Option Bool) (s : Slab) (hc : Rg.Can c.1.out) (hs : Rg.Can s.col) : Rg.Can (wF x d c s).1.out ∧ (wF x d c s).1.out.length ≤ c.1.out.length + s.col.length := by
 obtain ⟨⟨next, gap, first, out⟩, k⟩ := c
 unfold wF Rg.wstep
 simp only at hc ⊢
 split
 ·exact ⟨hc, by simp only; omega⟩
 ·split
  ·exact ⟨hc, by simp only; omega⟩
  ·split
   ·exact ⟨hs, by simp only; omega⟩
   ·obtain ⟨m, hm⟩ := hc.canS
    obtain ⟨n, hn⟩ := hs.canS
    exact ⟨Rg.Can.of (Rg.comC_can hm hn), comC_len hc hs⟩
theorem window_spec (T : List Slab) (x d : Int) (hT : T.length ≤ 1000) (hl : Rg.sumL (fun s => s.col.length) T ≤ 900) (hc : ∀ s ∈ T, Rg.Can s.col) (w1 : IntKind.i64.wrap (x + d) = x + d) (w2 : IntKind.i64.wrap (x - d) = x - d) :
  ∃ k, Rec.Ok k (Rg.winC T x d) ∧ pureCall E.P (L E) 23 [lst false (oslabR.vals T), .int .i64 x, .int .i64 d] = some (spanR.o k (Rg.winC T x d)) := by
 have ix : ∀ (i : Nat) (hi : i < T.length), indexAddrT (.sl 67 ⟨some true, some 3⟩) (lst false (oslabR.vals T)) (.int .i64 (i : Int)) = some (cptr (oslabR.val T[i])) := fun i hi => Rec.index_tree rfl hi
 have hwc : Rg.winC T x d = if (T.foldl (wF x d) (⟨x - d, false, true, []⟩, none)).1.gap = true ∨ (T.foldl (wF x d) (⟨x - d, false, true, []⟩, none)).1.next ≤ x + d then [] else (T.foldl (wF x d) (⟨x - d, false, true, []⟩, none)).1.out := by
  unfold Rg.winC
  rw [wF_fst]
 rw [hwc]
 have zs : (E.P.info? 65).bind (·.zero) = some (.slice none 0 0) := by kernel_rfl
 rw [pureCall_fn F23 rfl]
 simp -implicitDefEqProofs [r23, p23, w2, Rec.vals_len]
 generalize hw0 : ((⟨x - d, false, true, []⟩, none) : Rg.Win × Option Bool) = c0
 have heap0 : [AObj.cells 3 [.int .i64 x] 0, .cells 3 [.int .i64 d] 0, .cells 3 [.int .i64 (x - d)] 0, .cells 4 [.bool false] 0, .cells 4 [.bool true] 0, .cells 65 [.slice none 0 0] 0] = wH x d c0.1 c0.2 := by rw [← hw0]; rfl
 have inv0 : Rec.Ok c0.2 c0.1.out ∧ Rg.Can c0.1.out ∧ c0.1.out.length ≤ Rg.sumL (fun s => s.col.length) (T.take 0) := by rw [← hw0]; exact ⟨fun _ => rfl, trivial, Nat.zero_le _⟩
 rw [heap0]
 have sumT : ∀ i, Rg.sumL (fun s => s.col.length) (T.take i) ≤ Rg.sumL (fun s => s.col.length) T := fun i => by
  have : ∀ (l m : List Slab), Rg.sumL (fun s => s.col.length) (l ++ m) = Rg.sumL (fun s => s.col.length) l + Rg.sumL (fun s => s.col.length) m := by
   intro l m
   induction l with
   | nil => simp [Rg.sumL]
   | cons a l ih => show a.col.length + Rg.sumL _ (l ++ m) = a.col.length + Rg.sumL _ l + _; rw [ih]; omega
  have e := this (T.take i) (T.drop i)
  rw [List.take_append_drop] at e
  omega
 have sumS : ∀ i (hi : i < T.length), Rg.sumL (fun s => s.col.length) (T.take (i + 1)) = Rg.sumL (fun s => s.col.length) (T.take i) + T[i].col.length := fun i hi => by
  rw [List.take_succ_eq_append_getElem hi]
  generalize T.take i = l
  induction l with
  | nil => simp [Rg.sumL]
  | cons a l ih => show a.col.length + Rg.sumL _ (l ++ _) = a.col.length + Rg.sumL _ l + _; rw [ih]; omega
 refine ⟨if (T.foldl (wF x d) c0).1.gap = true ∨ (T.foldl (wF x d) c0).1.next ≤ x + d then none else (T.foldl (wF x d) c0).2, ?_, ?_⟩
 ·split
  ·exact fun _ => rfl
  ·have key : ∀ (T : List Slab) (c : Rg.Win × Option Bool), Rec.Ok c.2 c.1.out → Rec.Ok (T.foldl (wF x d) c).2 (T.foldl (wF x d) c).1.out := by
    intro T
    induction T with
    | nil => intro c h; exact h
    | cons s T ih => intro c h; exact ih _ (wF_ok x d c s h)
   exact key T c0 inv0.1
 rw [LL_for (γ := Rg.Win × Option Bool) T c0 (fun i _ => [(20, .int .i64 i)]) (fun _ c => wH x d c.1 c.2)
  (fun _ rest c => (.exit 0, [(20, undef)], wH x d (rest.foldl (wF x d) c).1 (rest.foldl (wF x d) c).2)) (fun i c => Rec.Ok c.2 c.1.out ∧ Rg.Can c.1.out ∧ c.1.out.length ≤ Rg.sumL (fun s => s.col.length) (T.take i)) (by omega) inv0]
 ·generalize T.foldl (wF x d) c0 = c
  obtain ⟨⟨next, gap, first, out⟩, k⟩ := c
  unfold wH
  simp only
  cases gap
  ·by_cases hn : next ≤ x + d
   ·simp -implicitDefEqProofs [k23_5, w1, hn, Rec.o]
   ·simp -implicitDefEqProofs [k23_5, w1, hn, Rec.o_reifyR]
  ·simp -implicitDefEqProofs [k23_5, Rec.o]
 ·simp -implicitDefEqProofs [k23_5]
 ·rfl
 ·intro nx i c hi _
  simp -implicitDefEqProofs [r23_5, k23_5, hi, trim_le]
 ·intro nx i s rest c hi hv hd hw hI ih
  obtain ⟨I1, I2, I3⟩ := hI
  have hsum := sumT (i + 1)
  have hss := sumS i hi
  rw [hv] at hss
  have hcs : Rg.Can s.col := hc s (by rw [← hv]; exact List.getElem_mem hi)
  obtain ⟨z, hz⟩ := win1 x d c.1 c.2 s (.cells 67 [.int .i64 s.x0, .int .i64 s.x1, ocol s.col] 0) w1 I1 (by omega) (by omega)
  obtain ⟨l1, l2⟩ := wF_len x d c s I2 hcs
  have ih := ih (wF x d c s) ⟨wF_ok x d c s I1, l1, by omega⟩
  have ixi := ix i hi
  rw [hv, oslab_val] at ixi
  rw [oslab_val] at hz
  rw [List.foldl_cons]
  have ocells : ∀ c, cellsOf (ocol c) = some [ocol c] := fun c => Rec.o_cellsOf
  have hz2 : L E 47 [.agg #[.int .i64 s.x0, .int .i64 s.x1, ocol s.col], .pointer (some ⟨3, 0, none⟩), .pointer (some ⟨2, 0, none⟩), .pointer (some ⟨0, 0, none⟩), .pointer (some ⟨1, 0, none⟩), .pointer (some ⟨4, 0, none⟩), .pointer (some ⟨5, 0, none⟩)] (wH x d c.1 c.2 ++ [.cells 67 [.int .i64 s.x0, .int .i64 s.x1, ocol s.col] 0]) 0 =
   some (.tuple #[], wH x d (wF x d c s).1 (wF x d c s).2 ++ [.cells 67 [.int .i64 s.x0, .int .i64 s.x1, ocol s.col] 0, z]) := hz
  have hl : ∀ w k, (wH x d w k).length = 6 := fun _ _ => rfl
  have tk : ∀ w k q z, (wH x d w k ++ [q, z]).take 6 = wH x d w k := fun _ _ _ _ => rfl
  have bl : ∀ w k, (wH x d w k).all (belowO 6) = true := fun w k => by
   unfold wH
   simp only [List.all_cons, List.all_nil, belO_cells, bel_int, bel_bool, Rec.o_bel, Bool.and_self]
  generalize wF x d c s = c' at ih hz2 ⊢
  obtain ⟨w', k'⟩ := c'
  obtain ⟨w, k⟩ := c
  simp only at hz2 ih ⊢
  simp -implicitDefEqProofs [k23_5] at ih
  simp -implicitDefEqProofs [r23_5, k23_5, hi, ixi, ret2 m47, hl, hz2, hw, trim_cut, tk, bl, -List.all_eq_true]
  exact ih
structure Lay (α : Type) where
 enc : α → List Value
 m : Nat
 len : ∀ a, (enc a).length = m + 1
namespace Lay
variable {α : Type} (R : Lay α)
def flat (l : List α) : List Value := l.flatMap R.enc
def row (t : TypeId) (l : List α) : AObj := .cells t (R.flat l) (R.m + 1)
def sl (b : Nat) (l : List α) : Value := .slice (some ⟨b, 0, some (l.length * (R.m + 1))⟩) l.length l.length
variable {R}
theorem flat_len : ∀ {l : List α}, (R.flat l).length = l.length * (R.m + 1)
 | [] => by simp [flat]
 | a :: l => by
  have := flat_len (l := l)
  show (R.enc a ++ R.flat l).length = (l.length + 1) * (R.m + 1)
  rw [List.length_append, R.len, this, Nat.add_mul]; omega
theorem flat_app {l m : List α} : R.flat (l ++ m) = R.flat l ++ R.flat m := List.flatMap_append
theorem flat_one {a : α} : R.flat [a] = R.enc a := by simp [flat]
theorem sl_bel {n d b : Nat} {l : List α} (h : b < n) : below (d + 1) n (R.sl b l) = true := decide_eq_true h
theorem sl_len {h : Heap} {b : Nat} {l : List α} : lenT .sl h (R.sl b l) = some (.int .i64 l.length) := rfl
theorem sl_nil {b : Nat} : R.sl b [] = .slice (some ⟨b, 0, some 0⟩) 0 0 := by unfold sl; simp
theorem app {el : El} {h : Heap} {lo b : Nat} {t : TypeId} {acc m : List α} {u : Value} (hel : el.size = R.m + 1) (hob : h[b]? = some (R.row t acc)) (hu : sliceCells h el.size u = some (R.flat m, m.length)) (hlo : lo ≤ b) (hb : (acc.length + m.length) * el.bytes ≤ 2 ^ 47) :
  appendT (some el) h lo false (R.sl b acc) u = some (R.sl b (acc ++ m), h.set b (R.row t (acc ++ m))) := by
 have hob' : h[b]? = some (.cells t (R.flat acc) (R.m + 1)) := hob
 unfold sl
 rw [append_slice, hu]
 show appS el h lo false _ _ _ h[b]? _ = _
 rw [hob']
 by_cases hm : m.length = 0
 ·have : m = [] := List.eq_nil_of_length_eq_zero hm
  subst this
  have hf : fitsRow h ⟨b, 0, some (acc.length * (R.m + 1))⟩ el.size = true := by
   unfold fitsRow
   show (match h[b]? with | some (.cells _ c g) => _ | _ => false) = true
   rw [hob']
   simp [stampOk, flat_len, hel]
  unfold appS
  simp only [List.append_nil, List.length_nil, Nat.add_zero, Nat.le_refl, if_true, hf, Option.bind_some]
  congr 2
  refine (List.ext_getElem? fun i => ?_)
  rw [List.getElem?_set]
  split
  ·rename_i e; subst e
   split
   ·exact hob
   ·rename_i hlt; rw [List.getElem?_eq_none (by omega)]
  ·rfl
 ·refine (appS_grown (m := m.length) hm flat_len.symm rfl hel flat_len.symm hlo hb).trans ?_
  unfold row
  rw [flat_app, ← flat_app, flat_len, List.length_append]
theorem flat_drop : ∀ {l : List α} {i : Nat}, (R.flat l).drop (i * (R.m + 1)) = R.flat (l.drop i)
 | [], i => by simp [flat]
 | a :: l, 0 => by simp
 | a :: l, i + 1 => by
  have := flat_drop (l := l) (i := i)
  show (R.enc a ++ R.flat l).drop _ = R.flat (l.drop i)
  rw [← this, List.drop_append, List.drop_of_length_le (by rw [R.len, Nat.add_mul]; omega), R.len, List.nil_append]
  congr 1
  rw [Nat.add_mul]; omega
theorem flat_at {l : List α} {i : Nat} (h : i < l.length) : ((R.flat l).drop (i * (R.m + 1))).take (R.m + 1) = R.enc l[i] := by
 rw [flat_drop, List.drop_eq_getElem_cons h]
 show (R.enc l[i] ++ R.flat _).take _ = _
 rw [List.take_append, List.take_of_length_le (by rw [R.len]; exact Nat.le_refl _), R.len, Nat.sub_self, List.take_zero, List.append_nil]
theorem flat_get {l : List α} {i j : Nat} (h : i < l.length) (hj : j < R.m + 1) : (R.flat l)[i * (R.m + 1) + j]? = (R.enc l[i])[j]? := by
 rw [← flat_at h, List.getElem?_take, if_pos hj, List.getElem?_drop]
theorem in_row {l : List α} {i : Nat} (h : i < l.length) : i * (R.m + 1) + (R.m + 1) ≤ l.length * (R.m + 1) := by
 have := Nat.mul_le_mul_right (R.m + 1) (show i + 1 ≤ l.length from h)
 rw [Nat.add_mul] at this; omega
def at_ (R : Lay α) (b : Nat) (l : List α) (i j : Nat) : Value := .pointer (some ⟨b, i * (R.m + 1) + j, some (l.length * (R.m + 1))⟩)
theorem index_row {h0 : Nat} {t : TypeId} {g : Option Bool} {b : Nat} {l : List α} {i : Nat} {k : IntKind} (hk : h0 = R.m + 1) (h1 : i < l.length) : indexAddrT (.sl t ⟨g, some h0⟩) (R.sl b l) (.int k (i : Int)) = some (R.at_ b l i 0) := by
 subst hk
 unfold sl
 rw [index_slice, if_pos ⟨by omega, by omega⟩]
 simp [shift, at_]
theorem field_row {b n f : Nat} {l : List α} {i : Nat} {k : TI} {g : Option Bool} : fieldAddrT k (some (f, ⟨g, some (n + 1)⟩)) (R.at_ b l i 0) = some (R.at_ b l i f) := by
 unfold at_
 rw [fieldAddr_ptr]
 simp [shift]
theorem load_cell {h : Heap} {b j : Nat} {t : TypeId} {l : List α} {i : Nat} {sz : Option Nat} (hob : h[b]? = some (R.row t l)) (h1 : i < l.length) (hj : j < R.m + 1) : loadT ⟨some false, sz⟩ h (R.at_ b l i j) = (R.enc l[i])[j]? := by
 unfold at_
 rw [load_one]
 have e : rowOf h ⟨b, i * (R.m + 1) + j, some (l.length * (R.m + 1))⟩ = some (R.flat l) := by
  unfold rowOf
  show (match h[b]? with | some (.cells _ c g) => _ | _ => none) = _
  rw [hob]
  show (if stampOk _ (R.m + 1) (R.flat l).length = true then some (R.flat l) else none) = _
  rw [if_pos (by unfold stampOk; rw [flat_len]; simp)]
 rw [e, Option.bind_some]
 exact flat_get h1 hj
theorem flat_put {l : List α} {i j : Nat} {v : Value} {a : α} (h : i < l.length) (hj : j < R.m + 1) (he : (R.enc l[i]).set j v = R.enc a) : (R.flat l).set (i * (R.m + 1) + j) v = R.flat (l.set i a) := by
 induction l generalizing i with
 | nil => simp at h
 | cons x l ih =>
  cases i with
  | zero =>
   show (R.enc x ++ R.flat l).set _ v = R.enc a ++ R.flat l
   rw [Nat.zero_mul, Nat.zero_add, List.set_append_left _ _ (by rw [R.len]; exact hj)]
   congr 1
  | succ i =>
   have h' : i < l.length := by simpa using h
   show (R.enc x ++ R.flat l).set _ v = R.enc x ++ R.flat (l.set i a)
   rw [List.set_append_right _ _ (by rw [R.len, Nat.add_mul]; omega), R.len]
   congr 1
   rw [← ih h' he]
   congr 1
   rw [Nat.add_mul]; omega
theorem store_cell {h : Heap} {b j lo : Nat} {t : TypeId} {l : List α} {i : Nat} {v : Value} {a : α} (hv : cellsOf v = some [v]) (hob : h[b]? = some (R.row t l)) (hlo : lo ≤ b) (h1 : i < l.length) (hj : j < R.m + 1) (he : (R.enc l[i]).set j v = R.enc a) :
  storeT (some 1) h lo v (R.at_ b l i j) = some (h.set b (R.row t (l.set i a))) := by
 unfold at_
 rw [store_ptr, hv, Option.bind_some]
 have hob' : h[b]? = some (.cells t (R.flat l) (R.m + 1)) := hob
 have hin := in_row (R := R) h1
 rw [if_pos (by rfl)]
 unfold wrN
 show (match h[b]? with | some (.cells t c g) => _ | _ => none) = _
 rw [hob']
 show (if _ then _ else none) = _
 rw [if_pos ⟨hlo, by unfold stampOk; rw [flat_len]; simp, by simp, by rw [flat_len]; simp; omega⟩]
 show some (h.set b (.cells t (splice (R.flat l) (i * (R.m + 1) + j) [v]) (R.m + 1))) = _
 rw [splice_one (by rw [flat_len]; omega), flat_put h1 hj he]; rfl
end Lay
open Rg (Rect Slab)
def lay3 : Lay (Int × Int × Value) where
 enc p := [.int .i64 p.1, .int .i64 p.2.1, p.2.2]
 m := 2
 len _ := rfl
def scolV (b : Nat) (c : List (Int × Int)) : Value := if c = [] then .slice none 0 0 else spanR.sl (b + 1) c
def boxO (r : Rect) : AObj := .cells 41 [.int .i64 r.x0, .int .i64 r.y0, .int .i64 r.x1, .int .i64 r.y1] 0
def sT (p : Slab × Rect) : Heap := if p.1.col = [] then [] else [boxO p.2, spanR.row 73 p.1.col]
def sH (l : List (Slab × Rect)) : Heap := l.flatMap sT
def encA : Nat → List (Slab × Rect) → List (Int × Int × Value)
 | _, [] => []
 | b, p :: l => (p.1.x0, p.1.x1, scolV b p.1.col) :: encA (b + (sT p).length) l
def HL (l : List (Slab × Rect)) : Heap := lay3.row 67 (encA 1 l) :: sH l
theorem sH_app {l m : List (Slab × Rect)} : sH (l ++ m) = sH l ++ sH m := List.flatMap_append
theorem sH_one {p : Slab × Rect} : sH [p] = sT p := by simp [sH]
theorem encA_app : ∀ {l m : List (Slab × Rect)} {b : Nat}, encA b (l ++ m) = encA b l ++ encA (b + (sH l).length) m
 | [], m, b => by simp [encA, sH]
 | p :: l, m, b => by
  show _ :: encA _ (l ++ m) = (_ :: encA _ l) ++ _
  have e : sH (p :: l) = sT p ++ sH l := rfl
  rw [encA_app, e, List.length_append, Nat.add_assoc]
  rfl
theorem encA_len : ∀ {l : List (Slab × Rect)} {b : Nat}, (encA b l).length = l.length
 | [], _ => rfl
 | p :: l, b => by show (encA _ l).length + 1 = l.length + 1; rw [encA_len]
theorem reify_cols {P : Go.Program} {n : Nat} (so : szOf P 73 = some 2) (ao : aggT P 73 = some true) {h : Heap} : ∀ (l : List (Slab × Rect)) (pre : Heap), h = pre ++ sH l → mapR P (n + 1) h (lay3.flat (encA pre.length l)) = some (oslabR.flat (l.map (·.1)))
 | [], _, _ => rfl
 | p :: l, pre, e => by
  have e1 : sH (p :: l) = sT p ++ sH l := rfl
  have ih := reify_cols (n := n) (h := h) so ao l (pre ++ sT p) (by rw [List.append_assoc, e, e1])
  rw [List.length_append] at ih
  show mapR P (n + 1) h ([.int .i64 p.1.x0, .int .i64 p.1.x1, scolV pre.length p.1.col] ++ lay3.flat (encA (pre.length + (sT p).length) l)) = some ([.int .i64 p.1.x0, .int .i64 p.1.x1, ocol p.1.col] ++ oslabR.flat (l.map (·.1)))
  have hc : reify P (n + 1) h (scolV pre.length p.1.col) = some (ocol p.1.col) := by
   unfold scolV ocol kc
   by_cases hc : p.1.col = []
   ·rw [if_pos hc, if_pos hc, hc]; rfl
   ·rw [if_neg hc, if_neg hc]
    refine Rec.reify_row (t := 73) ?_ so ao
    rw [e, e1, List.getElem?_append_right (by omega)]
    unfold sT
    rw [if_neg hc]
    simp
  simp only [List.cons_append, List.nil_append, mapR_cons, ih, hc]
  rfl
theorem reify_settled : ∀ (l : List (Slab × Rect)) (b : Nat), (lay3.flat (encA b l)).all (settled 8) = true → lay3.flat (encA b l) = oslabR.flat (l.map (·.1))
 | [], _, _ => rfl
 | p :: l, b, h => by
  have h : ([.int .i64 p.1.x0, .int .i64 p.1.x1, scolV b p.1.col] ++ lay3.flat (encA (b + (sT p).length) l)).all (settled 8) = true := h
  rw [List.all_append, Bool.and_eq_true] at h
  have ih := reify_settled l _ h.2
  have hc : scolV b p.1.col = ocol p.1.col := by
   have h1 := h.1
   simp only [List.all_cons, Bool.and_eq_true] at h1
   have h2 := h1.2.2.1
   unfold scolV at h2 ⊢
   unfold ocol kc
   by_cases hc : p.1.col = []
   ·rw [if_pos hc, if_pos hc, hc]; rfl
   ·rw [if_neg hc] at h2
    cases h2
  show [.int .i64 p.1.x0, .int .i64 p.1.x1, scolV b p.1.col] ++ lay3.flat (encA (b + (sT p).length) l) = [.int .i64 p.1.x0, .int .i64 p.1.x1, ocol p.1.col] ++ oslabR.flat (l.map (·.1))
  rw [hc, ih]
theorem reify_HL {P : Go.Program} (so : szOf P 73 = some 2) (ao : aggT P 73 = some true) (sl : szOf P 67 = some 3) (al : aggT P 67 = some true) (l : List (Slab × Rect)) : reifyR P (HL l) (lay3.sl 0 (encA 1 l)) = some (lst false (oslabR.vals (l.map (·.1)))) := by
 show reify P 8 (HL l) (lay3.sl 0 (encA 1 l)) = _
 unfold Lay.sl
 rw [reify_slice]
 by_cases h0 : (encA 1 l).length = 0
 ·have : l = [] := List.eq_nil_of_length_eq_zero (by rw [← h0, encA_len])
  subst this; rfl
 ·rw [if_neg h0]
  show reifyS P 7 (HL l) (some (lay3.row 67 (encA 1 l))) _ _ = _
  unfold Lay.row
  rw [reifyS_cells, sl, Option.bind_some, if_pos ⟨by unfold stampOk; rw [Lay.flat_len]; simp, by omega, by rw [Lay.flat_len]; simp [lay3]⟩]
  have e : ((lay3.flat (encA 1 l)).drop 0).take ((encA 1 l).length * 3) = lay3.flat (encA 1 l) := by rw [List.drop_zero, List.take_of_length_le (by rw [Lay.flat_len]; exact Nat.le_refl _)]
  rw [e]
  have hR : reifyC P 7 (HL l) (lay3.flat (encA 1 l)) = some (oslabR.flat (l.map (·.1))) := by
   cases hs : (lay3.flat (encA 1 l)).all (settled 8)
   ·rw [reifyC_map hs]
    exact reify_cols so ao l [lay3.row 67 (encA 1 l)] rfl
   ·rw [reifyC_set hs, reify_settled l 1 hs]
  rw [hR, Option.bind_some, encA_len]
  have := Rec.elems (R := oslabR) (l := l.map (·.1)) sl al
  rw [List.length_map] at this
  rw [this]; rfl
open Rg (Rect Slab)
def addS (d : Int) (r : Rect) : List (Int × Int) := if r.y0 + d < r.y1 - d then [(r.y0 + d, r.y1 - d)] else []
def isNew (l : List (Slab × Rect)) (r : Rect) : Prop := ∀ p, l.getLast? = some p → p.1.x0 ≠ r.x0
def sstep (d : Int) (l : List (Slab × Rect)) (r : Rect) : List (Slab × Rect) :=
 match l.getLast? with
 | some p => if p.1.x0 = r.x0 then l.dropLast ++ [({ p.1 with col := p.1.col ++ addS d r }, if p.1.col = [] then r else p.2)] else l ++ [(⟨r.x0, r.x1, addS d r⟩, r)]
 | none => l ++ [(⟨r.x0, r.x1, addS d r⟩, r)]
theorem sstep_new {d : Int} {l : List (Slab × Rect)} {r : Rect} (h : isNew l r) : sstep d l r = l ++ [(⟨r.x0, r.x1, addS d r⟩, r)] := by
 unfold sstep
 cases hl : l.getLast? with
 | none => rfl
 | some p => exact if_neg (h p hl)
theorem sstep_old {d : Int} {l : List (Slab × Rect)} {r : Rect} {p : Slab × Rect} (h : p.1.x0 = r.x0) : sstep d (l ++ [p]) r = l ++ [({ p.1 with col := p.1.col ++ addS d r }, if p.1.col = [] then r else p.2)] := by
 unfold sstep
 simp [h]
theorem lit_oslab (h : Heap) (a b : Int) : buildSliceT (some ⟨67, 3, 40, .agg ⟨[.int .i64 0, .int .i64 0, .slice none 0 0]⟩, ⟨some true, some 3⟩⟩) false h 1 #[(0, .agg ⟨[.int .i64 a, .int .i64 b, .slice none 0 0]⟩)] = some (lst true [.agg ⟨[.int .i64 a, .int .i64 b, .slice none 0 0]⟩], h) :=
 (build_lit' (n := 1) (l := [(0, .agg ⟨[.int .i64 a, .int .i64 b, .slice none 0 0]⟩)]) rfl rfl (by decide) (by decide) (by decide)).trans rfl
theorem app_oslab {h : Heap} {b lo : Nat} {c : List (Int × Int × Value)} (u v : Int) (hob : h[b]? = some (lay3.row 67 c)) (hlo : lo ≤ b) (hc : c.length ≤ 100000) :
  appendT (some ⟨67, 3, 40, .agg ⟨[.int .i64 0, .int .i64 0, .slice none 0 0]⟩, ⟨some true, some 3⟩⟩) h lo false (lay3.sl b c) (lst true [.agg ⟨[.int .i64 u, .int .i64 v, .slice none 0 0]⟩]) = some (lay3.sl b (c ++ [(u, v, .slice none 0 0)]), h.set b (lay3.row 67 (c ++ [(u, v, .slice none 0 0)]))) :=
 Lay.app (R := lay3) (m := [(u, v, .slice none 0 0)]) rfl hob (cells_lst (s := 3) rfl) hlo (by show (c.length + 1) * 40 ≤ 2 ^ 47; omega)
theorem nil_ospan {h : Heap} {lo : Nat} {st : Bool} (u v : Int) : appendT (some ⟨73, 2, 16, .agg ⟨[.int .i64 0, .int .i64 0]⟩, ⟨some true, some 2⟩⟩) h lo st (.slice none 0 0) (lst true [.agg ⟨[.int .i64 u, .int .i64 v]⟩]) = some (spanR.sl h.length [(u, v)], h ++ [spanR.row 73 [(u, v)]]) := by
 rw [append_nil, cells_lst (s := 2) rfl]
 rfl
theorem build_sp (u v : Int) : buildT (.fs ⟨[.int .i64 0, .int .i64 0]⟩ ⟨[(0, 1), (1, 1)]⟩) #[(0, .int .i64 u), (1, .int .i64 v)] = some (.agg ⟨[.int .i64 u, .int .i64 v]⟩) := rfl
theorem build_sl (u v : Int) : buildT (.fs ⟨[.int .i64 0, .int .i64 0, .slice none 0 0]⟩ ⟨[(0, 1), (1, 1), (2, 1)]⟩) #[(0, .int .i64 u), (1, .int .i64 v)] = some (.agg ⟨[.int .i64 u, .int .i64 v, .slice none 0 0]⟩) := rfl
def nilT (v : Value) (h : Heap) : Option (Value × Heap) := match v with
 | .pointer (some a) => some (.pointer (some a), h)
 | .func (.yield 2) a b => some (.func (.yield 2) a b, h)
 | .func (.func f) fst cap => some (.func (.func f) fst cap, h)
 | _ => none
theorem rop_nilT {E : Env} {C : Callee} {lo : Nat} {st : Bool} {ρ : Operand → Value} {h : Heap} {x : Operand} : ropR E C lo st (.nilCheck x) ρ h = nilT (ρ x) h := rfl
theorem nil_at {h : Heap} {b i j : Nat} {l : List (Int × Int × Value)} : nilT (lay3.at_ b l i j) h = some (lay3.at_ b l i j, h) := rfl
theorem row_len {h : Heap} {A : List (Int × Int × Value)} {e : Int × Int × Value} : lenT .sl h (lay3.sl 0 (A ++ [e])) = some (.int .i64 ((A.length : Int) + 1)) := by rw [Lay.sl_len]; simp
theorem row_lt {A : List (Int × Int × Value)} {e : Int × Int × Value} : A.length < (A ++ [e]).length := by simp
theorem row_idx {A : List (Int × Int × Value)} {e : Int × Int × Value} : indexAddrT (.sl 67 ⟨some true, some 3⟩) (lay3.sl 0 (A ++ [e])) (.int .i64 A.length) = some (lay3.at_ 0 (A ++ [e]) A.length 0) := Lay.index_row (R := lay3) rfl row_lt
theorem row_fld {A : List (Int × Int × Value)} {f n : Nat} : fieldAddrT ⟨some true, some 3⟩ (some (f, ⟨some false, some 1⟩)) (lay3.at_ 0 A n 0) = some (lay3.at_ 0 A n f) := Lay.field_row (R := lay3) (n := 0)
theorem row_l0 {H : Heap} {A : List (Int × Int × Value)} {x y : Int} {v : Value} : loadT ⟨some false, some 1⟩ (lay3.row 67 (A ++ [(x, y, v)]) :: H) (lay3.at_ 0 (A ++ [(x, y, v)]) A.length 0) = some (.int .i64 x) := by
 rw [Lay.load_cell (R := lay3) rfl row_lt (by decide)]
 simp [lay3]
theorem row_l2 {H : Heap} {A : List (Int × Int × Value)} {x y : Int} {v : Value} : loadT ⟨some false, some 1⟩ (lay3.row 67 (A ++ [(x, y, v)]) :: H) (lay3.at_ 0 (A ++ [(x, y, v)]) A.length 2) = some v := by
 rw [Lay.load_cell (R := lay3) rfl row_lt (by decide)]
 simp [lay3]
theorem row_st {H : Heap} {A : List (Int × Int × Value)} {x y : Int} {v v' : Value} (h : cellsOf v' = some [v']) : storeT (some 1) (lay3.row 67 (A ++ [(x, y, v)]) :: H) 0 v' (lay3.at_ 0 (A ++ [(x, y, v)]) A.length 2) = some (lay3.row 67 (A ++ [(x, y, v')]) :: H) := by
 rw [Lay.store_cell (R := lay3) (a := (x, y, v')) h rfl (Nat.le_refl _) row_lt (by decide) (by simp [lay3])]
 simp
theorem row_sl {A : List (Int × Int × Value)} {e : Int × Int × Value} (e' : Int × Int × Value) : lay3.sl 0 (A ++ [e]) = lay3.sl 0 (A ++ [e']) := by unfold Lay.sl; simp
theorem sp_cells {b : Nat} {c : List (Int × Int)} : cellsOf (spanR.sl b c) = some [spanR.sl b c] := rfl
def sInv (i : Nat) (l : List (Slab × Rect)) : Prop := l.length ≤ i ∧ ∀ p ∈ l, p.1.col.length ≤ i
theorem sH_bel {n : Nat} : ∀ {l : List (Slab × Rect)}, (sH l).all (belowO n) = true
 | [] => rfl
 | p :: l => by
  show (sT p ++ sH l).all (belowO n) = true
  rw [List.all_append, sH_bel, Bool.and_true]
  unfold sT
  split
  ·rfl
  ·simp only [List.all_cons, List.all_nil, Rec.row_bel, boxO, belO_cells, bel_int, Bool.and_self]
theorem enc_bel {n : Nat} : ∀ {l : List (Slab × Rect)} {b : Nat}, b + (sH l).length ≤ n → (lay3.flat (encA b l)).all (below 8 n) = true
 | [], _, _ => rfl
 | p :: l, b, h => by
  have e1 : sH (p :: l) = sT p ++ sH l := rfl
  rw [e1, List.length_append] at h
  show ([.int .i64 p.1.x0, .int .i64 p.1.x1, scolV b p.1.col] ++ lay3.flat (encA (b + (sT p).length) l)).all (below 8 n) = true
  rw [List.all_append, enc_bel (by omega), Bool.and_true]
  simp only [List.all_cons, List.all_nil, bel_int, Bool.true_and, Bool.and_true]
  unfold scolV
  unfold sT at h
  split
  ·rfl
  ·rename_i hc
   rw [if_neg hc] at h
   simp only [List.length_cons, List.length_nil] at h
   exact Rec.sl_bel (by omega)
theorem HL_bel {n : Nat} {l : List (Slab × Rect)} (h : 1 + (sH l).length ≤ n) : belowO n (lay3.row 67 (encA 1 l)) = true := enc_bel h
theorem trim_hold {n : Nat} {vs : List Value} {h : Heap} (h2 : (h.take n).all (belowO n) = false) : trim n vs h = h := by
 unfold trim
 split
 ·rfl
 ·rw [h2, Bool.and_false]; rfl
theorem flat_bad {n : Nat} {A : List (Int × Int × Value)} {x y : Int} {v : Value} (h : below 8 n v = false) : belowO n (lay3.row 67 (A ++ [(x, y, v)])) = false := by
 show (lay3.flat (A ++ [(x, y, v)])).all (below 8 n) = false
 rw [Lay.flat_app, List.all_append, Lay.flat_one]
 show (_ && ([Value.int .i64 x, .int .i64 y, v]).all (below 8 n)) = false
 simp only [List.all_cons, h, Bool.false_and, Bool.and_false]
set_option maxHeartbeats 1000000 in
theorem slabs_walk (k : Option Bool) (a : List Rect) (d : Int) (hk : Rec.Ok k a) (ha : a.length ≤ 1000) (hw : ∀ r ∈ a, IntKind.i64.wrap (r.y0 + d) = r.y0 + d ∧ IntKind.i64.wrap (r.y1 - d) = r.y1 - d) :
  pureCall E.P (L E) 20 [rectR.o k a, .int .i64 d] = some (lst false (oslabR.vals ((a.foldl (sstep d) []).map (·.1)))) := by
 rw [pureCall_fn F20 rfl]
 simp -implicitDefEqProofs [r20, p20, prep_new, newK_nil so52, Rec.o_len hk]
 rw [LL_for (γ := List (Slab × Rect)) a [] (fun i l => [(5, lay3.sl 0 (encA 1 l)), (12, .int .i64 i)]) (fun _ l => HL l)
  (fun _ rest l => (.exit 0, [(5, lay3.sl 0 (encA 1 (rest.foldl (sstep d) l))), (12, undef)], HL (rest.foldl (sstep d) l))) sInv (by omega) ⟨Nat.zero_le _, fun p hp => absurd hp List.not_mem_nil⟩]
 ·have rr := reify_HL so58 ao58 so52 ao52 (a.foldl (sstep d) [])
  simp -implicitDefEqProofs [k20_3, rr]
 ·simp -implicitDefEqProofs [k20_3, encA, Lay.sl_nil]
 ·rfl
 ·intro nx i l hi _
  simp -implicitDefEqProofs [r20_3, k20_3, hi, trim_le]
 ·intro nx i r rest l hi hv hd hw1 hI ih
  have ixi := Rec.o_index (R := rectR) (t := 41) (kk := .i64) (s := 4) rfl hk hi
  rw [hv, rect_val] at ixi
  obtain ⟨w1, w2⟩ := hw r (by rw [← hv]; exact List.getElem_mem hi)
  rw [List.foldl_cons]
  have ih := ih (sstep d l r)
  simp -implicitDefEqProofs [k20_3] at ih
  by_cases hn : isNew l r
  ·rw [sstep_new hn] at ih ⊢
   have ih := ih ⟨by simp only [List.length_append, List.length_singleton]; have := hI.1; omega, fun p hp => by
    rcases List.mem_append.1 hp with hp | hp
    ·exact Nat.le_succ_of_le (hI.2 p hp)
    ·rw [List.mem_singleton.1 hp]
     show (addS d r).length ≤ i + 1
     unfold addS
     split
     ·simp
     ·exact Nat.zero_le _⟩
   have eA : ∀ c q, encA 1 (l ++ [(⟨r.x0, r.x1, c⟩, q)]) = encA 1 l ++ [(r.x0, r.x1, scolV (1 + (sH l).length) c)] := fun c q => by rw [encA_app]; rfl
   have eS : ∀ c q, sH (l ++ [(⟨r.x0, r.x1, c⟩, q)]) = sH l ++ sT (⟨r.x0, r.x1, c⟩, q) := fun c q => by rw [sH_app, sH_one]
   have sb := fun n => sH_bel (n := n) (l := l)
   have obn : ∀ c q n, 1 + (sH l).length + (sT (⟨r.x0, r.x1, c⟩, q)).length ≤ n → belowO n (lay3.row 67 (encA 1 l ++ [(r.x0, r.x1, scolV (1 + (sH l).length) c)])) = true := fun c q n h => by
    have := HL_bel (n := n) (l := l ++ [(⟨r.x0, r.x1, c⟩, q)]) (by rw [eS, List.length_append]; omega)
    rw [eA] at this
    exact this
   have I1 := hI.1
   have key : encA 1 l = [] ∨ ∃ A x y v, encA 1 l = A ++ [(x, y, v)] ∧ x ≠ r.x0 := by
    cases hl : l.getLast? with
    | none => rw [List.getLast?_eq_none_iff] at hl; subst hl; exact .inl rfl
    | some p =>
     obtain ⟨m, rfl⟩ := List.getLast?_eq_some_iff.1 hl
     refine .inr ⟨encA 1 m, p.1.x0, p.1.x1, scolV (1 + (sH m).length) p.1.col, by rw [encA_app]; rfl, hn p hl⟩
   unfold HL at ih ⊢
   simp only [eA, eS] at ih ⊢
   have hAl : (encA 1 l).length = l.length := encA_len
   have hBl : (encA 1 l).length ≤ 1000 := by omega
   generalize encA 1 l = B at *
   have ln : ∀ h, lenT .sl h (lay3.sl 0 B) = some (.int .i64 B.length) := fun h => Lay.sl_len
   have hwB : IntKind.i64.wrap (B.length : Int) = B.length := by apply wrap_small <;> omega
   have ap : ∀ S, appendT (some ⟨67, 3, 40, .agg ⟨[.int .i64 0, .int .i64 0, .slice none 0 0]⟩, ⟨some true, some 3⟩⟩) (lay3.row 67 B :: S) 0 false (lay3.sl 0 B) (lst true [.agg ⟨[.int .i64 r.x0, .int .i64 r.x1, .slice none 0 0]⟩]) = some (lay3.sl 0 (B ++ [(r.x0, r.x1, .slice none 0 0)]), lay3.row 67 (B ++ [(r.x0, r.x1, .slice none 0 0)]) :: S) := fun S => (app_oslab r.x0 r.x1 rfl (Nat.le_refl _) (by omega)).trans rfl
   by_cases hd2 : r.y0 + d < r.y1 - d
   ·have ea : addS d r = [(r.y0 + d, r.y1 - d)] := if_pos hd2
    rw [ea] at ih ⊢
    have e1 : scolV (1 + (sH l).length) [(r.y0 + d, r.y1 - d)] = spanR.sl ((sH l).length + 1 + 1) [(r.y0 + d, r.y1 - d)] := by
     unfold scolV
     rw [if_neg (by simp), Nat.add_comm 1]
    have e2 : sT (⟨r.x0, r.x1, [(r.y0 + d, r.y1 - d)]⟩, r) = [boxO r, spanR.row 73 [(r.y0 + d, r.y1 - d)]] := rfl
    have tk : ∀ vs S', trim ((sH l).length + 1) vs (lay3.row 67 (B ++ [(r.x0, r.x1, spanR.sl ((sH l).length + 1 + 1) [(r.y0 + d, r.y1 - d)])]) :: S') = lay3.row 67 (B ++ [(r.x0, r.x1, spanR.sl ((sH l).length + 1 + 1) [(r.y0 + d, r.y1 - d)])]) :: S' := fun vs S' => trim_hold (by
     rw [List.take_succ_cons, List.all_cons, flat_bad, Bool.false_and]
     exact decide_eq_false (by show ¬ ((sH l).length + 1 + 1 < (sH l).length + 1); omega))
    rw [e1, e2, row_sl (r.x0, r.x1, .slice none 0 0)] at ih
    unfold boxO at ih
    have eap : ∀ a b, sH l ++ [a, b] = sH l ++ [a] ++ [b] := fun a b => by simp
    rw [eap] at ih
    rcases key with hB | ⟨A, x, y, v, hB, hx⟩
    ·have hB := eq_true hB
     simp -implicitDefEqProofs [r20_3, k20_3, hi, ixi, ln, hB, w1, w2, hd2, hw1, lit_oslab, ap, row_len, row_idx, row_fld, row_l2, row_st, sp_cells, hwB, tk, lit_ospan, nil_ospan, build_sp, build_sl, rop_nilT, nil_at, -append_nil, -List.all_eq_true, -List.append_assoc]
     exact ih
    ·have hne : ¬ B = [] := by rw [hB]; simp
     have hlA : (A.length : Int) = B.length - 1 := by rw [hB]; simp
     have hws : IntKind.i64.wrap ((B.length : Int) - 1) = B.length - 1 := by rw [← hlA]; apply wrap_small <;> omega
     have idx : indexAddrT (.sl 67 ⟨some true, some 3⟩) (lay3.sl 0 B) (.int .i64 ((B.length : Int) - 1)) = some (lay3.at_ 0 B A.length 0) := by rw [← hlA, hB]; exact row_idx
     have l0 : ∀ H, loadT ⟨some false, some 1⟩ (lay3.row 67 B :: H) (lay3.at_ 0 B A.length 0) = some (.int .i64 x) := fun H => by rw [hB]; exact row_l0
     simp -implicitDefEqProofs [r20_3, k20_3, hi, ixi, ln, hne, hws, idx, row_fld, l0, hx, w1, w2, hd2, hw1, lit_oslab, ap, row_len, row_idx, row_fld, row_l2, row_st, sp_cells, hwB, tk, lit_ospan, nil_ospan, build_sp, build_sl, rop_nilT, nil_at, -append_nil, -List.all_eq_true, -List.append_assoc]
     exact ih
   ·have ea : addS d r = [] := if_neg hd2
    rw [ea] at ih ⊢
    have e1 : scolV (1 + (sH l).length) [] = .slice none 0 0 := rfl
    have e2 : sT (⟨r.x0, r.x1, []⟩, r) = [] := rfl
    have ob := obn [] r ((sH l).length + 1) (by rw [e2]; simp; omega)
    rw [e1] at ob
    rw [e1, e2, List.append_nil] at ih
    rcases key with hB | ⟨A, x, y, v, hB, hx⟩
    ·have hB := eq_true hB
     simp -implicitDefEqProofs [r20_3, k20_3, hi, ixi, ln, hB, w1, w2, hd2, hw1, lit_oslab, ap, trim_cut, ob, sb, build_sl, -append_nil, Rec.o_bel, Lay.sl_bel, -List.all_eq_true, -List.append_assoc]
     exact ih
    ·have hne : ¬ B = [] := by rw [hB]; simp
     have hlA : (A.length : Int) = B.length - 1 := by rw [hB]; simp
     have hws : IntKind.i64.wrap ((B.length : Int) - 1) = B.length - 1 := by rw [← hlA]; apply wrap_small <;> omega
     have idx : indexAddrT (.sl 67 ⟨some true, some 3⟩) (lay3.sl 0 B) (.int .i64 ((B.length : Int) - 1)) = some (lay3.at_ 0 B A.length 0) := by rw [← hlA, hB]; exact row_idx
     have l0 : ∀ H, loadT ⟨some false, some 1⟩ (lay3.row 67 B :: H) (lay3.at_ 0 B A.length 0) = some (.int .i64 x) := fun H => by rw [hB]; exact row_l0
     simp -implicitDefEqProofs [r20_3, k20_3, hi, ixi, ln, hne, hws, idx, row_fld, l0, hx, w1, w2, hd2, hw1, lit_oslab, ap, row_fld, trim_cut, ob, sb, build_sl, -append_nil, Rec.o_bel, Lay.sl_bel, -List.all_eq_true, -List.append_assoc]
     exact ih
  ·obtain ⟨p, hp, hpx⟩ : ∃ p, l.getLast? = some p ∧ p.1.x0 = r.x0 := by
    apply Classical.byContradiction
    intro hno
    exact hn fun p hp hx => hno ⟨p, hp, hx⟩
   obtain ⟨m, rfl⟩ : ∃ m, l = m ++ [p] := ⟨l.dropLast, by rw [List.getLast?_eq_some_iff] at hp; obtain ⟨ys, rfl⟩ := hp; simp⟩
   rw [sstep_old hpx] at ih ⊢
   obtain ⟨⟨x0, x1, col⟩, q⟩ := p
   simp only at hpx
   subst hpx
   have eA : ∀ c q, encA 1 (m ++ [(⟨r.x0, x1, c⟩, q)]) = encA 1 m ++ [(r.x0, x1, scolV (1 + (sH m).length) c)] := fun c q => by rw [encA_app]; rfl
   have eS : ∀ c q, sH (m ++ [(⟨r.x0, x1, c⟩, q)]) = sH m ++ sT (⟨r.x0, x1, c⟩, q) := fun c q => by rw [sH_app, sH_one]
   have ob := HL_bel (n := (sH (m ++ [(⟨r.x0, x1, col⟩, q)])).length + 1) (l := m ++ [(⟨r.x0, x1, col⟩, q)]) (by omega)
   have sb := fun n => sH_bel (n := n) (l := m ++ [(⟨r.x0, x1, col⟩, q)])
   unfold HL at ih ⊢
   simp only [eA, eS] at ih ob sb ⊢
   have I1 := hI.1
   rw [List.length_append, List.length_singleton] at I1
   generalize hS : sH m ++ sT (⟨r.x0, x1, col⟩, q) = S at ob sb ⊢
   generalize hV : scolV (1 + (sH m).length) col = V at ob ⊢
   have hAl : (encA 1 m).length = m.length := encA_len
   generalize encA 1 m = A at *
   have ln : ∀ h v, lenT .sl h (lay3.sl 0 (A ++ [(r.x0, x1, v)])) = some (.int .i64 ((A.length : Int) + 1)) := fun h v => by rw [Lay.sl_len]; simp
   have hne : ¬ ((A.length : Int) + 1 = 0) := by omega
   have hws : IntKind.i64.wrap (A.length : Int) = A.length := by apply wrap_small <;> omega
   have hg : ∀ v, (A ++ [(r.x0, x1, v)])[A.length]? = some (r.x0, x1, v) := fun v => by simp
   have hlt : ∀ v : Value, A.length < (A ++ [(r.x0, x1, v)]).length := fun v => by simp
   have idx : ∀ v, indexAddrT (.sl 67 ⟨some true, some 3⟩) (lay3.sl 0 (A ++ [(r.x0, x1, v)])) (.int .i64 A.length) = some (lay3.at_ 0 (A ++ [(r.x0, x1, v)]) A.length 0) := fun v => Lay.index_row (R := lay3) rfl (hlt v)
   have l0 : ∀ H v, loadT ⟨some false, some 1⟩ (lay3.row 67 (A ++ [(r.x0, x1, v)]) :: H) (lay3.at_ 0 (A ++ [(r.x0, x1, v)]) A.length 0) = some (.int .i64 r.x0) := fun H v => by
    rw [Lay.load_cell (R := lay3) rfl (hlt v) (by decide)]
    simp [lay3]
   have l2 : ∀ H v, loadT ⟨some false, some 1⟩ (lay3.row 67 (A ++ [(r.x0, x1, v)]) :: H) (lay3.at_ 0 (A ++ [(r.x0, x1, v)]) A.length 2) = some v := fun H v => by
    rw [Lay.load_cell (R := lay3) rfl (hlt v) (by decide)]
    simp [lay3]
   have fr : ∀ f v, fieldAddrT ⟨some true, some 3⟩ (some (f, ⟨some false, some 1⟩)) (lay3.at_ 0 (A ++ [(r.x0, x1, v)]) A.length 0) = some (lay3.at_ 0 (A ++ [(r.x0, x1, v)]) A.length f) := fun f v => Lay.field_row (R := lay3) (n := 0)
   by_cases hd2 : r.y0 + d < r.y1 - d
   ·have ea : addS d r = [(r.y0 + d, r.y1 - d)] := if_pos hd2
    rw [ea] at ih ⊢
    have ih := ih ⟨by simp; omega, fun p hp => by
     rcases List.mem_append.1 hp with hp | hp
     ·exact Nat.le_succ_of_le (hI.2 p (by simp [hp]))
     ·rw [List.mem_singleton.1 hp]
      have := hI.2 (⟨r.x0, x1, col⟩, q) (by simp)
      simp only [List.length_append, List.length_singleton] at this ⊢
      omega⟩
    have hcl : col.length ≤ i := hI.2 (⟨r.x0, x1, col⟩, q) (by simp)
    have st : ∀ H v v', cellsOf v' = some [v'] → storeT (some 1) (lay3.row 67 (A ++ [(r.x0, x1, v)]) :: H) 0 v' (lay3.at_ 0 (A ++ [(r.x0, x1, v)]) A.length 2) = some (lay3.row 67 (A ++ [(r.x0, x1, v')]) :: H) := fun H v v' h => by
     rw [Lay.store_cell (R := lay3) (a := (r.x0, x1, v')) h rfl (Nat.le_refl _) (hlt v) (by decide) (by simp [lay3])]
     simp
    have sc : ∀ b c, cellsOf (spanR.sl b c) = some [spanR.sl b c] := fun _ _ => rfl
    have sf : ∀ {sz : Option Nat} b c, fitsTT ⟨some false, sz⟩ (spanR.sl b c) = true := fun _ _ => rfl
    have sle : ∀ v, lay3.sl 0 (A ++ [(r.x0, x1, v)]) = lay3.sl 0 (A ++ [(r.x0, x1, V)]) := fun v => by unfold Lay.sl; simp
    by_cases hc : col = []
    ·subst hc
     have hV0 : V = .slice none 0 0 := by rw [← hV]; rfl
     have hS0 : S = sH m := by rw [← hS]; exact List.append_nil _
     subst hV0 hS0
     have e1 : scolV (1 + (sH m).length) ([] ++ [(r.y0 + d, r.y1 - d)]) = spanR.sl ((sH m).length + 1 + 1) [(r.y0 + d, r.y1 - d)] := by
      unfold scolV
      rw [if_neg (by simp), Nat.add_comm 1]; rfl
     have e2 : sT (⟨r.x0, x1, [] ++ [(r.y0 + d, r.y1 - d)]⟩, r) = [boxO r, spanR.row 73 [(r.y0 + d, r.y1 - d)]] := rfl
     have tk : ∀ vs S', trim ((sH m).length + 1) vs (lay3.row 67 (A ++ [(r.x0, x1, spanR.sl ((sH m).length + 1 + 1) [(r.y0 + d, r.y1 - d)])]) :: S') = lay3.row 67 (A ++ [(r.x0, x1, spanR.sl ((sH m).length + 1 + 1) [(r.y0 + d, r.y1 - d)])]) :: S' := fun vs S' => trim_hold (by
      rw [List.take_succ_cons, List.all_cons, flat_bad, Bool.false_and]
      exact decide_eq_false (by show ¬ ((sH m).length + 1 + 1 < (sH m).length + 1); omega))
     rw [if_pos rfl, e1, e2, sle] at ih
     unfold boxO at ih
     simp -implicitDefEqProofs [r20_3, k20_3, hi, ixi, ln, hne, hws, idx, fr, l0, l2, w1, w2, hd2, hw1, lit_ospan, nil_ospan, st, sc, build_sp, rop_nilT, nil_at, tk, -append_nil, -List.all_eq_true]
     exact ih
    ·have hV0 : V = spanR.sl ((sH m).length + 1 + 1) col := by
      rw [← hV]
      unfold scolV
      rw [if_neg hc, Nat.add_comm 1]
     have hS0 : S = sH m ++ [boxO q, spanR.row 73 col] := by
      rw [← hS]
      unfold sT
      rw [if_neg hc]
     have e1 : scolV (1 + (sH m).length) (col ++ [(r.y0 + d, r.y1 - d)]) = spanR.sl ((sH m).length + 1 + 1) (col ++ [(r.y0 + d, r.y1 - d)]) := by
      unfold scolV
      rw [if_neg (by simp), Nat.add_comm 1]
     have e2 : sT (⟨r.x0, x1, col ++ [(r.y0 + d, r.y1 - d)]⟩, q) = [boxO q, spanR.row 73 (col ++ [(r.y0 + d, r.y1 - d)])] := by
      unfold sT
      rw [if_neg (by simp)]
     have hSl : S.length = (sH m).length + 2 := by rw [hS0]; simp
     have ap : ∀ x z, appendT (some ⟨73, 2, 16, .agg ⟨[.int .i64 0, .int .i64 0]⟩, ⟨some true, some 2⟩⟩) (x :: (S ++ [z])) 0 false V (lst true [.agg ⟨[.int .i64 (r.y0 + d), .int .i64 (r.y1 - d)]⟩]) = some (spanR.sl ((sH m).length + 1 + 1) (col ++ [(r.y0 + d, r.y1 - d)]), x :: (sH m ++ [boxO q, spanR.row 73 (col ++ [(r.y0 + d, r.y1 - d)]), z])) := fun x z => by
      rw [hV0, app_ospan (b := (sH m).length + 1 + 1) (c := col) _ _ (by rw [hS0]; simp) (Nat.zero_le _) (by omega), hS0]
      simp
     have tc : ∀ vs x z, vs.all (below 8 (S.length + 1)) = true → belowO (S.length + 1) x = true → trim (S.length + 1) vs (x :: (sH m ++ [boxO q, spanR.row 73 (col ++ [(r.y0 + d, r.y1 - d)]), z])) = x :: (sH m ++ [boxO q, spanR.row 73 (col ++ [(r.y0 + d, r.y1 - d)])]) := fun vs x z h1 h2 => by
      have et : (x :: (sH m ++ [boxO q, spanR.row 73 (col ++ [(r.y0 + d, r.y1 - d)]), z])).take (S.length + 1) = x :: (sH m ++ [boxO q, spanR.row 73 (col ++ [(r.y0 + d, r.y1 - d)])]) := by
       rw [hSl]
       simp [List.take_append, List.take_of_length_le]
      rw [trim_cut (by simp; omega) h1 (by rw [et, List.all_cons, h2, List.all_append, sH_bel]; simp [Rec.row_bel, boxO, belO_cells, bel_int, -List.all_eq_true]), et]
     have ob' : belowO (S.length + 1) (lay3.row 67 (A ++ [(r.x0, x1, spanR.sl ((sH m).length + 1 + 1) (col ++ [(r.y0 + d, r.y1 - d)]))])) = true := by
      have := HL_bel (n := S.length + 1) (l := m ++ [(⟨r.x0, x1, col ++ [(r.y0 + d, r.y1 - d)]⟩, q)]) (by rw [eS, e2, hSl]; simp; omega)
      rw [eA, e1] at this
      exact this
     rw [if_neg hc, e1, e2, sle] at ih
     rw [if_neg hc]
     simp -implicitDefEqProofs [r20_3, k20_3, hi, ixi, ln, hne, hws, idx, fr, l0, l2, w1, w2, hd2, hw1, lit_ospan, ap, st, sc, build_sp, rop_nilT, nil_at, tc, ob', -append_nil, Rec.o_bel, Lay.sl_bel, -List.all_eq_true]
     exact ih
   ·have ea : addS d r = [] := if_neg hd2
    have hS' : sT (⟨r.x0, x1, col⟩, if col = [] then r else q) = sT (⟨r.x0, x1, col⟩, q) := by
     unfold sT
     by_cases hc : col = []
     ·rw [if_pos hc, if_pos hc]
     ·rw [if_neg hc, if_neg hc, if_neg hc]
    rw [ea, List.append_nil, hS', hS, hV] at ih
    have ih := ih ⟨by simp; omega, fun p hp => Nat.le_succ_of_le (by
     rcases List.mem_append.1 hp with hp | hp
     ·exact hI.2 p (by simp [hp])
     ·rw [List.mem_singleton.1 hp]
      exact hI.2 (⟨r.x0, x1, col⟩, q) (by simp))⟩
    simp -implicitDefEqProofs [r20_3, k20_3, hi, ixi, ln, hne, hws, idx, fr, l0, w1, w2, hd2, hw1, ea, trim_cut, ob, sb, Rec.o_bel, Lay.sl_bel, -List.all_eq_true]
    exact ih
open Rg (Rect Slab emit outT canT shr slabsC)
theorem shr_cons {d : Int} {f t : Int} {c : List (Int × Int)} {x0 x1 : Int} : shr d ((f, t) :: c) = addS d ⟨x0, f, x1, t⟩ ++ shr d c := by
 unfold shr addS
 rw [List.filterMap_cons]
 split
 ·rename_i h; split at h <;> simp_all
 ·rename_i h; split at h <;> simp_all
theorem fold_old {d : Int} {x0 x1 y1 : Int} : ∀ (c : List (Int × Int)) (l : List (Slab × Rect)) (k : List (Int × Int)) (q : Rect),
  ((c.map fun u => (⟨x0, u.1, x1, u.2⟩ : Rect)).foldl (sstep d) (l ++ [(⟨x0, y1, k⟩, q)])).map (·.1) = l.map (·.1) ++ [⟨x0, y1, k ++ shr d c⟩] ∧ ∃ q', (c.map fun u => (⟨x0, u.1, x1, u.2⟩ : Rect)).foldl (sstep d) (l ++ [(⟨x0, y1, k⟩, q)]) = l ++ [(⟨x0, y1, k ++ shr d c⟩, q')]
 | [], l, k, q => by simp [shr]
 | (f, t) :: c, l, k, q => by
  rw [List.map_cons, List.foldl_cons, sstep_old rfl]
  have := fold_old (d := d) (x0 := x0) (x1 := x1) (y1 := y1) c l (k ++ addS d ⟨x0, f, x1, t⟩) (if k = [] then ⟨x0, f, x1, t⟩ else q)
  rw [List.append_assoc, ← shr_cons] at this
  exact this
theorem fold_slabs {d : Int} : ∀ (T : List Slab) (b : Int) (c : List (Int × Int)) (l : List (Slab × Rect)), canT b c T → (∀ p, l.getLast? = some p → p.1.x0 < b) → ((outT T).foldl (sstep d) l).map (·.1) = l.map (·.1) ++ slabsC d T
 | [], _, _, l, _, _ => by simp [outT, slabsC]
 | s :: T, b, c, l, h, hl => by
  obtain ⟨x0, x1, col⟩ := s
  obtain ⟨h1, h2, h3, h4, h5, h6⟩ := h
  simp only at h1 h2 h3 h6
  have eo : outT (⟨x0, x1, col⟩ :: T) = emit ⟨x0, x1, col⟩ ++ outT T := rfl
  have es : slabsC d (⟨x0, x1, col⟩ :: T) = ⟨x0, x1, shr d col⟩ :: slabsC d T := rfl
  rw [eo, es, List.foldl_append]
  cases col with
  | nil => exact absurd rfl h3
  | cons u col =>
   obtain ⟨f, t⟩ := u
   have ee : emit ⟨x0, x1, (f, t) :: col⟩ = ⟨x0, f, x1, t⟩ :: col.map fun u => (⟨x0, u.1, x1, u.2⟩ : Rect) := rfl
   have hn : isNew l ⟨x0, f, x1, t⟩ := fun p hp => by
    have := hl p hp
    show p.1.x0 ≠ x0
    omega
   rw [ee, List.foldl_cons, sstep_new hn]
   obtain ⟨q', hq⟩ := (fold_old (d := d) (x0 := x0) (x1 := x1) (y1 := x1) col l (addS d ⟨x0, f, x1, t⟩) ⟨x0, f, x1, t⟩).2
   rw [← shr_cons] at hq
   show List.map _ (List.foldl _ (List.foldl _ (l ++ [(⟨x0, x1, addS d ⟨x0, f, x1, t⟩⟩, ⟨x0, f, x1, t⟩)]) _) _) = _
   rw [hq, fold_slabs T x1 _ _ h6 fun p hp => ?_]
   ·simp
   ·simp only [List.getLast?_concat, Option.some.injEq] at hp
    rw [← hp]
    exact h2
theorem slabs_spec (k : Option Bool) (T : List Slab) (d b : Int) (c : List (Int × Int)) (hk : Rec.Ok k (outT T)) (hc : canT b c T) (ha : (outT T).length ≤ 1000) (hw : ∀ r ∈ outT T, IntKind.i64.wrap (r.y0 + d) = r.y0 + d ∧ IntKind.i64.wrap (r.y1 - d) = r.y1 - d) :
  pureCall E.P (L E) 20 [rectR.o k (outT T), .int .i64 d] = some (lst false (oslabR.vals (slabsC d T))) := by
 rw [slabs_walk k (outT T) d hk ha hw, fold_slabs T b c [] hc (fun p hp => by cases hp)]
 rfl
end Go.Proofs.Ythkddpgnhaeooaa.Bm
