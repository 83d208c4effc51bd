/-
 Chapter 08, plain: what the laws say of grown and shrunk regions, and of gaps. Conditions: none.
-/
import Derived.Test.YthkddpgnhaeooaaQT30
namespace Go.Proofs.Ythkddpgnhaeooaa.Bm
open Go Go.RowKit
open Rg (Rect Slab comC comI)
theorem neq2o (a b c d : Int) : aBin E.P .neq 73 (.agg ⟨[.int .i64 a, .int .i64 b]⟩) (.agg ⟨[.int .i64 c, .int .i64 d]⟩) = (allOf [some (a == c), some (b == d)]).map fun b => .bool (!b) := by kernel_rfl
theorem neq_ospan (s t : Int × Int) : aBin E.P .neq 73 (spanR.val s) (spanR.val t) = some (.bool (decide (s ≠ t))) := by
 obtain ⟨a, b⟩ := s
 obtain ⟨c, d⟩ := t
 rw [span_val, span_val, neq2o]
 by_cases h1 : a = c <;> by_cases h2 : b = d <;> simp [allOf_two, h1, h2]
theorem equal_ospans (x y : Bool) (l r : List (Int × Int)) (hl : l.length ≤ 1000000) : pureCall E.P (L E) 24 [lst x (spanR.vals l), lst y (spanR.vals r)] = some (.bool (decide (l = r))) := by
 have ixl : ∀ (i : Nat) (hi : i < l.length), indexAddrT (.sl 73 ⟨some true, some 2⟩) (lst x (spanR.vals l)) (.int .i64 (i : Int)) = some (cptr (spanR.val l[i])) := fun i hi => Rec.index_tree rfl hi
 have ixr : ∀ (i : Nat) (hi : i < r.length), indexAddrT (.sl 73 ⟨some true, some 2⟩) (lst y (spanR.vals r)) (.int .i64 (i : Int)) = some (cptr (spanR.val r[i])) := fun i hi => Rec.index_tree rfl hi
 have fit : ∀ s, fitsTT ⟨some true, some 2⟩ (spanR.val s) = true := fun s => rfl
 have rv : ∀ s h, reify E.P 8 h (spanR.val s) = some (spanR.val s) := fun s h => rfl
 rw [pureCall_fn F24 rfl]
 simp -implicitDefEqProofs [r24, padS, Rec.vals_len]
 by_cases hlen : l.length = r.length
 ·simp -implicitDefEqProofs [hlen, Rec.vals_len]
  rw [LL_for (γ := Unit) l () (fun i _ => [(13, .int .i64 i)]) (fun _ _ => []) (fun i rest _ => if eqL rest (r.drop i) then (.exit 0, [(13, undef)], []) else (.ret, [(4, .bool false), (13, undef)], [])) (fun _ _ => True) (by omega) trivial]
  ·cases h : eqL l r
   ·have : ¬ l = r := of_decide_eq_false h
    simp [this, k24_4, h]
   ·have : l = r := of_decide_eq_true h
    simp [this, k24_4, eqL]
  ·simp [k24_4]
  ·rfl
  ·intro nx i c hi _
   have hd0 : eqL [] (r.drop i) = true := by rw [List.drop_eq_nil_of_le (by omega)]; rfl
   rw [hd0]
   simp -implicitDefEqProofs [r24_4, k24_4, hi, hlen, trim_le]
  ·intro nx i v rest c hi hv hd hw _ ih
   have ih := ih () trivial
   have hi' : i < r.length := by omega
   have hrd : r.drop i = r[i] :: r.drop (i + 1) := List.drop_eq_getElem_cons hi'
   rw [hrd, eqL_cons]
   simp -implicitDefEqProofs [k24_4] at ih
   by_cases he : v = r[i]
   ·simp -implicitDefEqProofs [r24_4, k24_4, hi', ixl i hi, ixr i hi', fit, neq_ospan, hv, hw, he, trim_le]
    exact ih
   ·simp -implicitDefEqProofs [r24_4, k24_4, hi', ixl i hi, ixr i hi', fit, neq_ospan, hv, he, trim_le]
 ·have : ¬ l = r := fun e => hlen (by rw [e])
  have hlen' : ¬ ((l.length : Int) = r.length) := by omega
  simp -implicitDefEqProofs [hlen', this]
theorem equal_o (m : Option Bool) (x : Bool) (l r : List (Int × Int)) (h0 : l ≠ []) (hm : Rec.Ok m r) (hl : l.length ≤ 1000000) : pureCall E.P (L E) 24 [lst x (spanR.vals l), spanR.o m r] = some (.bool (decide (l = r))) := by
 cases m with
 | some y => exact equal_ospans x y l r hl
 | none =>
  have hr : r = [] := hm rfl
  subst hr
  have hlen : ¬ ((l.length : Int) = 0) := by have := List.length_pos_iff.2 h0; omega
  rw [pureCall_fn F24 rfl]
  simp -implicitDefEqProofs [r24, padS, Rec.vals_len, Rec.o, h0]
theorem wF_fold_len (x d : Int) : ∀ (T : List Slab) (c : Rg.Win × Option Bool), Rg.Can c.1.out → (∀ s ∈ T, Rg.Can s.col) → (T.foldl (wF x d) c).1.out.length ≤ c.1.out.length + Rg.sumL (fun s => s.col.length) T
 | [], c, _, _ => Nat.le_refl _
 | s :: T, c, hc, hT => by
  obtain ⟨h1, h2⟩ := wF_len x d c s hc (hT s (by simp))
  have := wF_fold_len x d T (wF x d c s) h1 fun u hu => hT u (by simp [hu])
  rw [List.foldl_cons]
  show _ ≤ _ + (s.col.length + Rg.sumL (fun s => s.col.length) T)
  omega
theorem winC_len (T : List Slab) (x d : Int) (hT : ∀ s ∈ T, Rg.Can s.col) : (Rg.winC T x d).length ≤ Rg.sumL (fun s => s.col.length) T := by
 have h := wF_fold_len x d T (⟨x - d, false, true, []⟩, none) trivial hT
 rw [wF_fst] at h
 unfold Rg.winC
 simp only
 split
 ·exact Nat.zero_le _
 ·simpa using h
open Rg (Rect Slab runs runsF outT emit stripL canT slabsC winC shrinkX shrinkL cell)
def xsD (d : Int) (l : List Slab) : List Int := l.flatMap fun s => [s.x0 + d, s.x1 + d, s.x0 - d, s.x1 - d]
theorem xsD_cons (d : Int) (s : Slab) (l : List Slab) : xsD d (s :: l) = [s.x0 + d, s.x1 + d, s.x0 - d, s.x1 - d] ++ xsD d l := rfl
theorem xsD_len (d : Int) : ∀ l : List Slab, (xsD d l).length = 4 * l.length
 | [] => rfl
 | s :: l => by
  have e2 : (s :: l).length = l.length + 1 := rfl
  have e3 : [s.x0 + d, s.x1 + d, s.x0 - d, s.x1 - d].length = 4 := rfl
  rw [xsD_cons, List.length_append, xsD_len d l, e2, e3]; omega
theorem shrinkX_eq (d : Int) (T : List Slab) : shrinkX d T = Rg.sortU (xsD d (slabsC d T)) := by
 unfold shrinkX xsD slabsC
 rw [List.flatMap_map]
theorem lit_four (h : Heap) (a b c d : Int) : buildSliceT (some ⟨3, 1, 8, .int .i64 0, ⟨some false, some 1⟩⟩) false h 4 #[(0, .int .i64 a), (1, .int .i64 b), (2, .int .i64 c), (3, .int .i64 d)] = some (lst true [.int .i64 a, .int .i64 b, .int .i64 c, .int .i64 d], h) :=
 (build_lit' (n := 4) (l := [(0, .int .i64 a), (1, .int .i64 b), (2, .int .i64 c), (3, .int .i64 d)]) rfl rfl (by decide) (by decide) (by decide)).trans rfl
theorem app_four {h : Heap} {b lo : Nat} {c : List Int} (u v w x : Int) (hob : h[b]? = some (intR.row 3 c)) (hlo : lo ≤ b) (hc : c.length ≤ 1000000) :
  appendT (some ⟨3, 1, 8, .int .i64 0, ⟨some false, some 1⟩⟩) h lo false (intR.sl b c) (lst true [.int .i64 u, .int .i64 v, .int .i64 w, .int .i64 x]) = some (intR.sl b (c ++ [u, v, w, x]), h.set b (intR.row 3 (c ++ [u, v, w, x]))) :=
 Rec.app (R := intR) (m := [u, v, w, x]) rfl hob (cells_lst (by rfl)) hlo (by show (c.length + 4) * 8 ≤ 2 ^ 47; omega)
theorem canT_ne : ∀ {T : List Slab} {b : Int} {c : List (Int × Int)}, canT b c T → ∀ s ∈ T, s.col ≠ []
 | [], _, _, _, s, hs => by cases hs
 | u :: T, b, c, h, s, hs => by
  rcases List.mem_cons.1 hs with rfl | hs
  ·exact h.2.2.1
  ·exact canT_ne h.2.2.2.2.2 s hs
theorem sumL_pos : ∀ {T : List Slab}, (∀ s ∈ T, s.col ≠ []) → T.length ≤ Rg.sumL (fun s => s.col.length) T
 | [], _ => Nat.le_refl _
 | s :: T, h => by
  have h1 := sumL_pos (T := T) fun u hu => h u (by simp [hu])
  have h2 := List.length_pos_iff.2 (h s (by simp))
  show T.length + 1 ≤ s.col.length + Rg.sumL (fun s => s.col.length) T
  omega
theorem sumL_shr (d : Int) : ∀ T : List Slab, Rg.sumL (fun s => s.col.length) (slabsC d T) ≤ Rg.sumL (fun s => s.col.length) T
 | [] => Nat.le_refl _
 | s :: T => by
  have h1 := sumL_shr d T
  have h2 : (Rg.shr d s.col).length ≤ s.col.length := List.length_filterMap_le _ _
  show (Rg.shr d s.col).length + Rg.sumL (fun s => s.col.length) (slabsC d T) ≤ s.col.length + Rg.sumL (fun s => s.col.length) T
  omega
theorem bel_skp {a n : Nat} : below (a + 1) n skipV = true := rfl
structure GS where
 i : Nat
 P : List Rect
 x0 : Int
 w : List (Int × Int)
 kw : Option Bool
def GS.out (s : GS) (xs : List Int) : List Rect := if s.i = 0 then [] else s.P ++ emit ⟨s.x0, xs.getD s.i 0, s.w⟩
def GS.was (s : GS) : Value := if s.i = 0 then .slice none 0 0 else spanR.o s.kw s.w
def GS.ok (s : GS) (xs : List Int) (S : List Slab) (F : List Rect) : Prop := s.i ≤ S.length ∧ (s.i = 0 → s.P = []) ∧ (s.i ≠ 0 → s.P ++ outT (runs ⟨s.x0, xs.getD s.i 0, s.w⟩ (S.drop s.i)) = F) ∧ s.P.length + s.w.length ≤ bnd s.i ∧ s.w.length ≤ 5000 ∧ Rec.Ok s.kw s.w
def shrinkR (d : Int) (T : List Slab) : Except Int (List Rect) := if 200 < (shrinkL d T).length then .error 6 else .ok (shrinkL d T)
set_option maxHeartbeats 4000000 in
theorem shrink_walk (k : Option Bool) (T : List Slab) (d b : Int) (cc : List (Int × Int)) (hk : Rec.Ok k (outT T)) (hc : canT b cc T) (hd0 : 0 ≤ d) (hd1 : d ≤ 1048576) (hreg : regB (outT T) = true) :
  pureCall E.P (L E) 6 [rectR.o k (outT T), .int .i64 d] = some (resL (shrinkR d T)) := by
 obtain ⟨g1, g2, _⟩ := regB_iff.1 hreg
 have hok : ∀ r ∈ outT T, 0 ≤ r.x0 ∧ r.x0 < r.x1 ∧ r.x1 ≤ 1048576 ∧ 0 ≤ r.y0 ∧ r.y0 < r.y1 ∧ r.y1 ≤ 1048576 := fun r hr => by
  have := List.all_eq_true.1 g1 r hr
  unfold okR at this
  simp only [Bool.and_eq_true, decide_eq_true_eq] at this
  omega
 have hv := ovalid_spec k (outT T) d hk (by omega)
 rw [hreg, decide_eq_true hd0, decide_eq_true hd1] at hv
 simp only [Bool.and_self] at hv
 have hs := slabs_spec k T d b cc hk hc (by omega) fun r hr => by
  have := hok r hr
  exact ⟨wrap64 (by omega) (by omega), wrap64 (by omega) (by omega)⟩
 -- the slabs
 have hTl : T.length ≤ 200 ∧ Rg.sumL (fun s => s.col.length) (slabsC d T) ≤ 200 ∧ (∀ s ∈ slabsC d T, Rg.Can s.col) ∧ ∀ s ∈ slabsC d T, 0 ≤ s.x0 ∧ s.x1 ≤ 1048576 ∧ s.x0 < s.x1 := by
  have hne := canT_ne hc
  have h1 := sumL_pos hne
  rw [← Rg.outT_len T] at h1
  have h2 := sumL_shr d T
  rw [← Rg.outT_len T] at h2
  refine ⟨by omega, by omega, fun s hs => (Rg.rowT_pos (Rg.canT_row hd0 hc) s hs).2, fun s hs => ?_⟩
  obtain ⟨u, hu, rfl⟩ := List.mem_map.1 hs
  obtain ⟨y, hy⟩ := List.exists_mem_of_ne_nil _ (hne u hu)
  have := hok ⟨u.x0, y.1, u.x1, y.2⟩ (List.mem_flatMap.2 ⟨u, hu, List.mem_map.2 ⟨y, hy, rfl⟩⟩)
  simp only at this ⊢
  omega
 obtain ⟨hTl, hTs, hTc, hTx⟩ := hTl
 have hxx := shrinkX_eq d T
 unfold shrinkR shrinkL
 rw [hxx]
 have hCl : (slabsC d T).length ≤ 200 := by unfold slabsC; rw [List.length_map]; exact hTl
 generalize slabsC d T = C at *
 have win : ∀ x, IntKind.i64.wrap (x + d) = x + d → IntKind.i64.wrap (x - d) = x - d → ∃ k, Rec.Ok k (winC C x d) ∧ pureCall E.P (L E) 23 [lst false (oslabR.vals C), .int .i64 x, .int .i64 d] = some (spanR.o k (winC C x d)) ∧ (winC C x d).length ≤ 5000 := fun x h1 h2 => by
  obtain ⟨k, h3, h4⟩ := window_spec C x d (by omega) (by omega) hTc h1 h2
  have := winC_len C x d hTc
  exact ⟨k, h3, h4, by omega⟩
 have so : ∀ k l, settled depth (rectR.o k l) = true := fun k l => Rec.o_set
 have so1 : ∀ k l, settled depth (spanR.o k l) = true := fun k l => Rec.o_set
 have so2 : ∀ l, settled depth (lst false l) = true := fun _ => rfl
 have so3 : ∀ z, settled depth (.int .i64 z) = true := fun _ => rfl
 rw [pureCall_fn F6 rfl]
 simp -implicitDefEqProofs [r6, p6, ret0 m19, Rec.o_reify, hv, ret1 m20, so, so3, hs, prep_new, newK_nil s3, Rec.vals_len]
 rw [LL_for (γ := List Int) C [] (fun i c => [(7, intR.sl 0 c), (27, .int .i64 i)]) (fun _ c => [intR.row 3 c])
  (fun _ rest c => (.exit 0, [(7, intR.sl 0 (c ++ xsD d rest)), (27, undef)], [intR.row 3 (c ++ xsD d rest)])) (fun i c => c.length = 4 * i) (by omega) rfl]
 ·rw [List.nil_append]
  have hel := xsD_len d C
  have so := sortInts (h := [intR.row 3 (xsD d C)]) (b := 0) (lo := 0) (d := xsD d C) rfl (Nat.le_refl _) (by omega)
  obtain ⟨r, co, hr⟩ := compInts (h := [intR.row 3 (sortI (xsD d C))]) (b := 0) (lo := 0) (d := sortI (xsD d C)) rfl (Nat.le_refl _) (by rw [sortI_len]; omega)
  have hsl : (sortI (xsD d C)).length = (xsD d C).length := sortI_len _
  rw [Rg.comp_sort] at co hr
  have e1 : intR.sl 0 (sortI (xsD d C)) = intR.sl 0 (xsD d C) := by unfold Rec.sl; rw [hsl]
  have s0 : ∀ a b : AObj, [a].set 0 b = [b] := fun _ _ => rfl
  rw [e1, s0] at co
  rw [s0] at so
  simp -implicitDefEqProofs [k6_6, ret2 (E := E) (f := 21) rfl, ret2 (E := E) (f := 22) rfl, so, co, prep_new, newK_nil s32]
  rw [hsl] at hr ⊢
  have hxb : ∀ x ∈ Rg.sortU (xsD d C), -2097152 ≤ x ∧ x ≤ 2097152 := fun x hx => by
   rw [Rg.sortU_mem] at hx
   obtain ⟨s, hs, hx⟩ := List.mem_flatMap.1 hx
   have := hTx s hs
   simp only [List.mem_cons, List.not_mem_nil, or_false] at hx
   omega
  generalize Rg.sortU (xsD d C) = xs at *
  generalize (xsD d C).length = n at *
  have hxl : xs.length ≤ 2000 := by rw [List.length_append] at hr; omega
  have hSl := Rg.stripL_len (fun x => winC C x d) xs
  have hSg := stripL_get (fun x => winC C x d) xs
  generalize hSe : stripL (fun x => winC C x d) xs = S at hSl hSg ⊢
  generalize hFe : outT (runsF S) = F
  clear co so hs hv hTx hTs hTc hxx hSe
  rw [LL_rec (α := GS) ⟨0, [], 0, [], none⟩ (fun s => [(10, rectR.sl 1 (s.out xs)), (11, s.was), (12, .int .i64 (s.P.length : Int)), (13, .int .i64 ((s.i + 1 : Nat) : Int))]) (fun s => [intR.row 3 (xs ++ r), rectR.row 41 (s.out xs)])
   (fun _ => (.exit 2, [(10, rectR.sl 1 F), (11, undef), (12, undef), (13, undef)], [intR.row 3 (xs ++ r), rectR.row 41 F])) (fun s => s.ok xs S F) (fun s => S.length - s.i)]
  ·have rr := Rec.reify_row (R := rectR) (P := E.P) (n := 7) (h := [intR.row 3 (xs ++ r), rectR.row 41 F]) (b := 1) (t := 41) (l := F) rfl s32 a32
   by_cases h2 : 200 < F.length
   ·have h2I : (200 : Int) < (F.length : Int) := by omega
    simp -implicitDefEqProofs [k6_16, Rec.sl_len, h2, h2I, resL]
   ·have h2I : ¬ (200 : Int) < (F.length : Int) := by omega
    simp -implicitDefEqProofs [k6_16, Rec.sl_len, h2, h2I, rr, resL]
  ·exact ⟨Nat.zero_le _, fun _ => rfl, fun h => absurd rfl h, Nat.zero_le _, Nat.zero_le _, fun _ => rfl⟩
  ·simp -implicitDefEqProofs [k6_16, GS.out, GS.was, Rec.sl_nil]
  ·rfl
  ·intro nx s hI ih
   obtain ⟨i, P, x0, w, kw⟩ := s
   obtain ⟨h1, h2, h3, h4, h5, h6⟩ := hI
   simp only at h1 h2 h3 h4 h5 h6
   have hS2 : S.length ≤ 2000 := by omega
   have hgx : ∀ j (hj : j < xs.length), xs.getD j 0 = xs[j] := fun j hj => by rw [List.getD_eq_getElem?_getD, List.getElem?_eq_getElem hj]; rfl
   have w1 : IntKind.i64.wrap (((i + 1 : Nat) : Int) + 1) = ((i + 1 + 1 : Nat) : Int) := (wrap64 (by omega) (by omega)).trans (by omega)
   by_cases hi : i + 1 < xs.length
   ·obtain ⟨hs, eS⟩ := hSg i hi
    have hdS : S.drop i = ⟨xs[i], xs[i + 1], winC C xs[i] d⟩ :: S.drop (i + 1) := by rw [List.drop_eq_getElem_cons hs, eS]
    have hxi := hxb xs[i] (List.getElem_mem _)
    obtain ⟨kk, q1, q2, q4⟩ := win xs[i] (wrap64 (by omega) (by omega)) (wrap64 (by omega) (by omega))
    generalize winC C xs[i] d = c at q1 q2 q4 hdS
    have w0 : IntKind.i64.wrap (((i + 1 : Nat) : Int) - 1) = (i : Int) := (wrap64 (by omega) (by omega)).trans (by omega)
    have hii : ((i + 1 : Nat) : Int) < (xs.length : Int) := by omega
    have ix0 := pre_index (t := 3) (g := some false) (b := 0) (n := n) (k := .i64) (e := xs) (i := i) (by omega)
    have ix1 := pre_index (t := 3) (g := some false) (b := 0) (n := n) (k := .i64) (e := xs) (i := i + 1) hi
    have ld0 := fun H => pre_load (h := intR.row 3 (xs ++ r) :: H) (b := 0) (n := n) (sz := some 1) rfl hr (show i < xs.length by omega)
    have ld1 := fun H => pre_load (h := intR.row 3 (xs ++ r) :: H) (b := 0) (n := n) (sz := some 1) rfl hr hi
    have wI : IntKind.i64.wrap (i : Int) = i := wrap64 (by omega) (by omega)
    have ix1c := ix1
    push_cast at ix1c
    have gx0 := hgx i (by omega)
    have gx1 := hgx (i + 1) hi
    by_cases hmg : i ≠ 0 ∧ c ≠ [] ∧ c = w
    ·obtain ⟨hi0, hc0, hcw⟩ := hmg
     subst hcw
     have h3 := h3 hi0
     rw [hdS, Rg.runs_step (s := ⟨x0, xs.getD i 0, c⟩) (u := ⟨xs[i], xs[i + 1], c⟩) rfl] at h3
     have h4' : P.length + c.length ≤ bnd (i + 1) := by rw [bnd_succ]; omega
     have ih := ih ⟨i + 1, P, x0, c, kw⟩ (by show S.length - (i + 1) < S.length - i; omega) ⟨by show i + 1 ≤ S.length; omega, fun h => absurd h (Nat.succ_ne_zero i), fun _ => by show P ++ outT (runs ⟨x0, xs.getD (i + 1) 0, c⟩ (S.drop (i + 1))) = F; rw [gx1]; exact h3, h4', h5, h6⟩
     have eo : GS.out ⟨i, P, x0, c, kw⟩ xs = P ++ emit ⟨x0, xs[i], c⟩ := by unfold GS.out; rw [if_neg hi0, gx0]
     have eo1 : GS.out ⟨i + 1, P, x0, c, kw⟩ xs = P ++ emit ⟨x0, xs[i + 1], c⟩ := by unfold GS.out; rw [if_neg (Nat.succ_ne_zero i), gx1]
     have ew : GS.was ⟨i, P, x0, c, kw⟩ = spanR.o kw c := if_neg hi0
     have ew1 : GS.was ⟨i + 1, P, x0, c, kw⟩ = spanR.o kw c := if_neg (Nat.succ_ne_zero i)
     simp only [eo1, ew1] at ih
     simp only [eo, ew]
     have hiposN : 0 < i := by omega
     have hipos : (1 : Int) < ((i + 1 : Nat) : Int) := by omega
     have hcpos : 0 < c.length := List.length_pos_iff.2 hc0
     have hcpos' : (0 : Int) < (c.length : Int) := by omega
     have ci : pureCall E.P (L E) 24 [spanR.o kk c, spanR.o kw c] = some (.bool true) := by
      cases kk with
      | none => exact absurd (q1 rfl) hc0
      | some y => exact (equal_o kw y c c hc0 h6 (by omega)).trans (by rw [decide_eq_true rfl])
     have hlo : (P ++ emit ⟨x0, xs[i], c⟩).length = P.length + c.length := by rw [List.length_append, emit_len]
     simp -implicitDefEqProofs [k6_16] at ih
     simp -implicitDefEqProofs [r6_16, k6_16, pre_len, Rec.o_len q1, w0, hii, ix0, ld0, ret1 m23, so2, so3, q2, hipos, hcpos, ret0 m24, Rec.o_reify, ci, -Int.natCast_add]
     rw [LL_rec (α := Nat) 0 (fun j => [(15, .int .i64 ((P.length + j : Nat) : Int))]) (fun j => [intR.row 3 (xs ++ r), rectR.row 41 (P ++ (emit ⟨x0, xs[i + 1], c.take j⟩ ++ emit ⟨x0, xs[i], c.drop j⟩))])
      (fun _ => (.exit 4, [(15, undef)], [intR.row 3 (xs ++ r), rectR.row 41 (P ++ emit ⟨x0, xs[i + 1], c⟩)])) (fun j => j ≤ c.length) (fun j => c.length - j)]
     ·have esl : rectR.sl 1 (P ++ emit ⟨x0, xs[i + 1], c⟩) = rectR.sl 1 (P ++ emit ⟨x0, xs[i], c⟩) := rect_sl (by rw [List.length_append, List.length_append, emit_len, emit_len])
      rw [esl] at ih
      simp -implicitDefEqProofs [k6_21, w1, trim_le, -Int.natCast_add]
      exact ih
     ·exact Nat.zero_le _
     ·simp -implicitDefEqProofs [k6_21]
     ·rfl
     ·intro nx j hj ih
      by_cases hjc : j < c.length
      ·have ih := ih (j + 1) (by omega) (by omega)
       have hgt : P.length + j < (P ++ (emit ⟨x0, xs[i + 1], c.take j⟩ ++ emit ⟨x0, xs[i], c.drop j⟩)).length := by rw [out_len]; omega
       have eg : (P ++ (emit ⟨x0, xs[i + 1], c.take j⟩ ++ emit ⟨x0, xs[i], c.drop j⟩))[P.length + j] = ⟨x0, c[j].1, xs[i], c[j].2⟩ := by
        have := out_get (P := P) (x0 := x0) (x1 := xs[i]) (x2 := xs[i + 1]) hjc
        rw [List.getElem?_eq_getElem hgt] at this
        exact Option.some.inj this
       have es := out_set (P := P) (x0 := x0) (x1 := xs[i]) (x2 := xs[i + 1]) hjc
       have esl : rectR.sl 1 (P ++ emit ⟨x0, xs[i], c⟩) = rectR.sl 1 (P ++ (emit ⟨x0, xs[i + 1], c.take j⟩ ++ emit ⟨x0, xs[i], c.drop j⟩)) := rect_sl (by rw [out_len, hlo])
       have w2 : IntKind.i64.wrap (((P.length + j : Nat) : Int) + 1) = ((P.length + (j + 1) : Nat) : Int) := by
        have := bnd_le (i := i) (by omega)
        exact (wrap64 (by omega) (by omega)).trans (by omega)
       have hlt : ((P.length + j : Nat) : Int) < ((P.length + c.length : Nat) : Int) := by omega
       have hltN : P.length + j < P.length + c.length := by omega
       have ixr := Rec.index_row (R := rectR) (h0 := 4) (t := 41) (g := some true) (b := 1) (l := P ++ (emit ⟨x0, xs[i + 1], c.take j⟩ ++ emit ⟨x0, xs[i], c.drop j⟩)) (i := P.length + j) (k := .i64) rfl hgt
       rw [← esl] at ixr
       have fdr := Rec.field_row (R := rectR) (b := 1) (n := 0) (f := 2) (l := P ++ (emit ⟨x0, xs[i + 1], c.take j⟩ ++ emit ⟨x0, xs[i], c.drop j⟩)) (i := P.length + j) (k := ⟨some true, some 4⟩) (g := some false)
       have str := Rec.store_cell (R := rectR) (h := [intR.row 3 (xs ++ r), rectR.row 41 (P ++ (emit ⟨x0, xs[i + 1], c.take j⟩ ++ emit ⟨x0, xs[i], c.drop j⟩))]) (b := 1) (j := 2) (lo := 0) (t := 41) (l := P ++ (emit ⟨x0, xs[i + 1], c.take j⟩ ++ emit ⟨x0, xs[i], c.drop j⟩)) (i := P.length + j) (v := .int .i64 xs[i + 1]) (a := ⟨x0, c[j].1, xs[i + 1], c[j].2⟩) rfl rfl (Nat.zero_le _) hgt (by decide) (by rw [eg]; rfl)
       rw [es] at str
       generalize P ++ (emit ⟨x0, xs[i + 1], c.take j⟩ ++ emit ⟨x0, xs[i], c.drop j⟩) = oj at *
       generalize P ++ (emit ⟨x0, xs[i + 1], c.take (j + 1)⟩ ++ emit ⟨x0, xs[i], c.drop (j + 1)⟩) = oj1 at *
       generalize hQ : ((P.length + j : Nat) : Int) = Q at *
       generalize hQ1 : ((P.length + (j + 1) : Nat) : Int) = Q1 at *
       simp -implicitDefEqProofs [k6_21] at ih
       simp -implicitDefEqProofs [r6_21, k6_21, Rec.sl_len, hlo, hlt, w2, ix1, ld1, ixr, fdr, str, trim_le, -Int.natCast_add, -List.length_append]
       exact ih
      ·have e1 : c.take j = c := List.take_of_length_le (by omega)
       have e2 : c.drop j = [] := List.drop_of_length_le (by omega)
       have e3 : emit ⟨x0, xs[i], []⟩ = [] := rfl
       have hlt : ¬ (((P.length + j : Nat) : Int) < ((P.length + c.length : Nat) : Int)) := by omega
       have hltN : ¬ (P.length + j < P.length + c.length) := by omega
       rw [e1, e2, e3, List.append_nil]
       simp -implicitDefEqProofs [r6_21, k6_21, Rec.sl_len, hlo, hlt, trim_le, -Int.natCast_add, -List.length_append]
    ·have hnx : c = [] ∨ (i ≠ 0 → c ≠ w) := by
      by_cases h0 : c = []
      ·exact .inl h0
      ·exact .inr fun hi0 he => hmg ⟨hi0, h0, he⟩
     obtain ⟨o, ho⟩ : ∃ o, o = GS.out ⟨i, P, x0, w, kw⟩ xs := ⟨_, rfl⟩
     have hol : o.length ≤ bnd i := by
      rw [ho]; unfold GS.out
      split
      ·exact Nat.zero_le _
      ·rw [List.length_append, emit_len]; exact h4
     have hbi := bnd_le (i := i) (by omega)
     have h4' : o.length + c.length ≤ bnd (i + 1) := by rw [bnd_succ]; omega
     have hnew : o ++ outT (runs ⟨xs[i], xs[i + 1], c⟩ (S.drop (i + 1))) = F := by
      rw [ho]; unfold GS.out
      by_cases hi0 : i = 0
      ·rw [if_pos hi0, List.nil_append, ← hFe]
       subst hi0
       rw [List.drop_zero] at hdS
       rw [hdS]; rfl
      ·rw [if_neg hi0]
       have h3 := h3 hi0
       rw [hdS, next_run (s := ⟨xs[i], xs[i + 1], c⟩) (by rcases hnx with h | h; exact .inl h; exact .inr (h hi0)), ← List.append_assoc] at h3
       exact h3
     have ih := ih ⟨i + 1, o, xs[i], c, kk⟩ (by show S.length - (i + 1) < S.length - i; omega) ⟨by show i + 1 ≤ S.length; omega, fun h => absurd h (Nat.succ_ne_zero i), fun _ => by show o ++ outT (runs ⟨xs[i], xs.getD (i + 1) 0, c⟩ (S.drop (i + 1))) = F; rw [gx1]; exact hnew, h4', q4, q1⟩
     have eo1 : GS.out ⟨i + 1, o, xs[i], c, kk⟩ xs = o ++ emit ⟨xs[i], xs[i + 1], c⟩ := by unfold GS.out; rw [if_neg (Nat.succ_ne_zero i), gx1]
     have ew1 : GS.was ⟨i + 1, o, xs[i], c, kk⟩ = spanR.o kk c := if_neg (Nat.succ_ne_zero i)
     simp only [eo1, ew1] at ih
     simp only [← ho]
     simp -implicitDefEqProofs [k6_16, -Int.natCast_add] at ih
     have hG : (0 < i ∧ 0 < c.length → ∃ m, GS.was ⟨i, P, x0, w, kw⟩ = spanR.o m w ∧ Rec.Ok m w ∧ decide (c = w) = false) := fun ⟨h, h'⟩ => by
      have hi0 : i ≠ 0 := by omega
      refine ⟨kw, if_neg hi0, h6, decide_eq_false fun e => ?_⟩
      rcases hnx with h0 | h0
      ·subst h0; simp at h'
      ·exact h0 hi0 e
     generalize GS.was ⟨i, P, x0, w, kw⟩ = wv at hG ⊢
     by_cases gi : 0 < i
     ·have gi1 : (1 : Int) < ((i + 1 : Nat) : Int) := by omega
      by_cases gc : 0 < c.length
      ·obtain ⟨m, ew, hmw, ed⟩ := hG ⟨gi, gc⟩
       subst ew
       have hc0 : c ≠ [] := List.length_pos_iff.1 gc
       have gc1 : (0 : Int) < (c.length : Int) := by omega
       have cw : pureCall E.P (L E) 24 [spanR.o kk c, spanR.o m w] = some (.bool false) := by
        cases kk with
        | none => exact absurd (q1 rfl) hc0
        | some y => exact (equal_o m y c w hc0 hmw (by omega)).trans (by rw [ed])
       simp -implicitDefEqProofs [r6_16, k6_16, pre_len, Rec.o_len q1, w0, hii, ix0, ld0, ret1 m23, so2, so3, q2, gi1, gc, ret0 m24, cw, Rec.o_reify, Rec.sl_len, -Int.natCast_add]
       have st17 := fun (o' : List Rect) (j : Nat) (hj : j < c.length) (ho : o'.length ≤ 200000000) (q : AObj) => app_rect (h := [intR.row 3 (xs ++ r), rectR.row 41 o', q]) (b := 1) (lo := 0) (c := o') ⟨xs[i], c[j].1, xs[i + 1], c[j].2⟩ rfl (Nat.zero_le _) (by omega)
       rw [LL_for (γ := List Rect) c o (fun j o' => [(10, rectR.sl 1 o'), (101, .int .i64 (j : Int))]) (fun _ o' => [intR.row 3 (xs ++ r), rectR.row 41 o'])
        (fun _ rest o' => (.exit 6, [(10, rectR.sl 1 (o' ++ emit ⟨xs[i], xs[i + 1], rest⟩)), (101, undef)], [intR.row 3 (xs ++ r), rectR.row 41 (o' ++ emit ⟨xs[i], xs[i + 1], rest⟩)])) (fun j o' => o'.length = o.length + j) (by omega) rfl]
       ·simp -implicitDefEqProofs [k6_26, w1, trim_le, -Int.natCast_add]
        exact ih
       ·simp -implicitDefEqProofs [k6_26]
       ·rfl
       ·intro nx j o' hj _
        have e0 : emit ⟨xs[i], xs[i + 1], []⟩ = [] := rfl
        simp -implicitDefEqProofs [r6_26, k6_26, hj, e0, trim_le]
       ·intro nx j s rest o' hj hv hd hw ho ih
        have st := st17 o' j hj (by omega)
        have ixj := Rec.o_index (R := spanR) (t := 73) (kk := .i64) (s := 2) rfl q1 hj
        rw [hv] at st ixj
        have ih := ih (o' ++ [⟨xs[i], s.1, xs[i + 1], s.2⟩]) (by rw [List.length_append]; show o'.length + 1 = _; omega)
        rw [emit_cons, ← List.append_assoc]
        simp -implicitDefEqProofs [k6_26, -List.append_assoc] at ih
        simp -implicitDefEqProofs [r6_26, k6_26, hj, ixj, span_val, wI, ix0, ix1c, ld0, ld1, hw, b4_all, lit_rect, st, trim_cut, pre_bel, Rec.sl_bel, Rec.row_bel, Rec.o_bel, -List.append_assoc]
        exact ih
      ·have gc1 : ¬ (0 : Int) < (c.length : Int) := by omega
       simp -implicitDefEqProofs [r6_16, k6_16, pre_len, Rec.o_len q1, w0, hii, ix0, ld0, ret1 m23, so2, so3, q2, gi1, gc, Rec.sl_len, -Int.natCast_add]
       have st17 := fun (o' : List Rect) (j : Nat) (hj : j < c.length) (ho : o'.length ≤ 200000000) (q : AObj) => app_rect (h := [intR.row 3 (xs ++ r), rectR.row 41 o', q]) (b := 1) (lo := 0) (c := o') ⟨xs[i], c[j].1, xs[i + 1], c[j].2⟩ rfl (Nat.zero_le _) (by omega)
       rw [LL_for (γ := List Rect) c o (fun j o' => [(10, rectR.sl 1 o'), (101, .int .i64 (j : Int))]) (fun _ o' => [intR.row 3 (xs ++ r), rectR.row 41 o'])
        (fun _ rest o' => (.exit 6, [(10, rectR.sl 1 (o' ++ emit ⟨xs[i], xs[i + 1], rest⟩)), (101, undef)], [intR.row 3 (xs ++ r), rectR.row 41 (o' ++ emit ⟨xs[i], xs[i + 1], rest⟩)])) (fun j o' => o'.length = o.length + j) (by omega) rfl]
       ·simp -implicitDefEqProofs [k6_26, w1, trim_le, -Int.natCast_add]
        exact ih
       ·simp -implicitDefEqProofs [k6_26]
       ·rfl
       ·intro nx j o' hj _
        have e0 : emit ⟨xs[i], xs[i + 1], []⟩ = [] := rfl
        simp -implicitDefEqProofs [r6_26, k6_26, hj, e0, trim_le]
       ·intro nx j s rest o' hj hv hd hw ho ih
        have st := st17 o' j hj (by omega)
        have ixj := Rec.o_index (R := spanR) (t := 73) (kk := .i64) (s := 2) rfl q1 hj
        rw [hv] at st ixj
        have ih := ih (o' ++ [⟨xs[i], s.1, xs[i + 1], s.2⟩]) (by rw [List.length_append]; show o'.length + 1 = _; omega)
        rw [emit_cons, ← List.append_assoc]
        simp -implicitDefEqProofs [k6_26, -List.append_assoc] at ih
        simp -implicitDefEqProofs [r6_26, k6_26, hj, ixj, span_val, wI, ix0, ix1c, ld0, ld1, hw, b4_all, lit_rect, st, trim_cut, pre_bel, bel_skp, Rec.sl_bel, Rec.row_bel, Rec.o_bel, -List.append_assoc]
        exact ih
     ·have gi1 : ¬ (1 : Int) < ((i + 1 : Nat) : Int) := by omega
      simp -implicitDefEqProofs [r6_16, k6_16, pre_len, Rec.o_len q1, w0, hii, ix0, ld0, ret1 m23, so2, so3, q2, gi1, Rec.sl_len, -Int.natCast_add]
      have st17 := fun (o' : List Rect) (j : Nat) (hj : j < c.length) (ho : o'.length ≤ 200000000) (q : AObj) => app_rect (h := [intR.row 3 (xs ++ r), rectR.row 41 o', q]) (b := 1) (lo := 0) (c := o') ⟨xs[i], c[j].1, xs[i + 1], c[j].2⟩ rfl (Nat.zero_le _) (by omega)
      rw [LL_for (γ := List Rect) c o (fun j o' => [(10, rectR.sl 1 o'), (101, .int .i64 (j : Int))]) (fun _ o' => [intR.row 3 (xs ++ r), rectR.row 41 o'])
       (fun _ rest o' => (.exit 6, [(10, rectR.sl 1 (o' ++ emit ⟨xs[i], xs[i + 1], rest⟩)), (101, undef)], [intR.row 3 (xs ++ r), rectR.row 41 (o' ++ emit ⟨xs[i], xs[i + 1], rest⟩)])) (fun j o' => o'.length = o.length + j) (by omega) rfl]
      ·simp -implicitDefEqProofs [k6_26, w1, trim_le, -Int.natCast_add]
       exact ih
      ·simp -implicitDefEqProofs [k6_26]
      ·rfl
      ·intro nx j o' hj _
       have e0 : emit ⟨xs[i], xs[i + 1], []⟩ = [] := rfl
       simp -implicitDefEqProofs [r6_26, k6_26, hj, e0, trim_le]
      ·intro nx j s rest o' hj hv hd hw ho ih
       have st := st17 o' j hj (by omega)
       have ixj := Rec.o_index (R := spanR) (t := 73) (kk := .i64) (s := 2) rfl q1 hj
       rw [hv] at st ixj
       have ih := ih (o' ++ [⟨xs[i], s.1, xs[i + 1], s.2⟩]) (by rw [List.length_append]; show o'.length + 1 = _; omega)
       rw [emit_cons, ← List.append_assoc]
       simp -implicitDefEqProofs [k6_26, -List.append_assoc] at ih
       simp -implicitDefEqProofs [r6_26, k6_26, hj, ixj, span_val, wI, ix0, ix1c, ld0, ld1, hw, b4_all, lit_rect, st, trim_cut, pre_bel, bel_skp, Rec.sl_bel, Rec.row_bel, Rec.o_bel, -List.append_assoc]
       exact ih
   ·have hfin : i = S.length := by omega
    have hout : GS.out ⟨i, P, x0, w, kw⟩ xs = F := by
     unfold GS.out
     by_cases hi0 : i = 0
     ·rw [if_pos hi0, ← hFe]
      have : S = [] := List.eq_nil_of_length_eq_zero (by omega)
      rw [this]; rfl
     ·rw [if_neg hi0]
      have h3 := h3 hi0
      rw [List.drop_of_length_le (by omega), Rg.runs_end] at h3
      exact h3
    have hii : ¬ (((i + 1 : Nat) : Int) < (xs.length : Int)) := by omega
    rw [hout]
    simp -implicitDefEqProofs [r6_16, k6_16, pre_len, hii, trim_le, -Int.natCast_add]
 ·simp -implicitDefEqProofs [k6_6, Rec.sl_nil]
 ·rfl
 ·intro nx i c hi _
  simp -implicitDefEqProofs [r6_6, k6_6, hi, trim_le, xsD]
 ·intro nx i s rest c hi hv hd hw hc ih
  have ixi := Rec.index_tree (R := oslabR) (x := false) (t := 67) (k := .i64) (h0 := 3) rfl hi
  rw [hv, oslab_val] at ixi
  have hx := hTx s (by rw [← hv]; exact List.getElem_mem hi)
  have w1 : IntKind.i64.wrap (s.x0 + d) = s.x0 + d := wrap64 (by omega) (by omega)
  have w2 : IntKind.i64.wrap (s.x1 + d) = s.x1 + d := wrap64 (by omega) (by omega)
  have w3 : IntKind.i64.wrap (s.x0 - d) = s.x0 - d := wrap64 (by omega) (by omega)
  have w4 : IntKind.i64.wrap (s.x1 - d) = s.x1 - d := wrap64 (by omega) (by omega)
  have ap := fun q => app_four (h := [intR.row 3 c, q]) (b := 0) (lo := 0) (c := c) (s.x0 + d) (s.x1 + d) (s.x0 - d) (s.x1 - d) rfl (Nat.le_refl _) (by omega)
  have ocells : ∀ c, cellsOf (ocol c) = some [ocol c] := fun c => Rec.o_cellsOf
  have ih := ih (c ++ [s.x0 + d, s.x1 + d, s.x0 - d, s.x1 - d]) (by rw [List.length_append]; show c.length + 4 = _; omega)
  rw [xsD_cons, ← List.append_assoc]
  simp -implicitDefEqProofs [k6_6, -List.append_assoc] at ih
  simp -implicitDefEqProofs [r6_6, k6_6, hi, ixi, w1, w2, w3, w4, lit_four, ap, hw, trim_cut, Rec.sl_bel, Rec.row_bel, Rec.o_bel, -List.append_assoc]
  exact ih
open Rg (Rect Slab gapR canT outT)
noncomputable def slabsOf (a : List Rect) : List Slab := @dite _ (∃ T : List Slab, ∃ b : Int, canT b [] T ∧ a = outT T) (Classical.propDecidable _) (fun h => Classical.choose h) (fun _ => [])
theorem slabsOf_ok {a : List Rect} (h : Rg.Form a) : ∃ b, canT b [] (slabsOf a) ∧ a = outT (slabsOf a) := by
 have h' : ∃ T : List Slab, ∃ b : Int, canT b [] T ∧ a = outT T := by
  obtain ⟨b, T, h1, h2⟩ := h
  exact ⟨T, b, h1, h2⟩
 unfold slabsOf
 rw [dif_pos h']
 exact Classical.choose_spec h'
noncomputable def shrinkF (d : Int) (a : List Rect) : List Rect := Rg.shrinkL d (slabsOf a)
noncomputable def shrinkX (a : List Rect) (d : Int) : Except Int (List Rect) := if validB a d then (if 200 < (shrinkF d a).length then .error 6 else .ok (shrinkF d a)) else .error 1
theorem shrink_spec (k : Option Bool) (a : List Rect) (d : Int) (hk : Rec.Ok k a) (ha : a.length ≤ 1000000) : pureCall E.P (L E) 6 [rectR.o k a, .int .i64 d] = some (resL (shrinkX a d)) := by
 have hv := ovalid_spec k a d hk ha
 change pureCall _ _ _ _ = some (.bool (validB a d)) at hv
 unfold shrinkX
 cases h0 : validB a d
 ·rw [h0] at hv
  rw [pureCall_fn F6 rfl]
  simp -implicitDefEqProofs [r6, p6, ret0 m19, Rec.o_reify, hv, resL]
 ·have hvb := h0
  unfold validB at hvb
  simp only [Bool.and_eq_true, decide_eq_true_eq] at hvb
  obtain ⟨⟨h1, h2⟩, h3⟩ := hvb
  obtain ⟨_, _, hF⟩ := regB_iff.1 h3
  obtain ⟨b, hc, ea⟩ := slabsOf_ok hF
  have key := shrink_walk k (slabsOf a) d b [] (by rw [← ea]; exact hk) hc h1 h2 (by rw [← ea]; exact h3)
  rw [← ea] at key
  rw [key, if_pos rfl]
  rfl
theorem shrinkF_ok {d : Int} (hd : 0 ≤ d) {a : List Rect} (h : Rg.Form a) : Rg.Form (shrinkF d a) ∧ ∀ x y, Rg.cell (shrinkF d a) x y = Rg.eroB d (Rg.cell a) x y := by
 obtain ⟨b, hc, ea⟩ := slabsOf_ok h
 have := Rg.shrink_ok hd hc
 rw [← ea] at this
 exact this
open Rg (Rect cell growL growR gapR Gro Ero eroB)
theorem reg_box {a : List Rect} (h : regB a = true) : ∀ r ∈ a, r.inBox 1048576 := fun r hr => okR_iff.1 (List.all_eq_true.1 (regB_iff.1 h).1 r hr)
theorem reg_mk {c : List Rect} (hf : Rg.Form c) (hl : c.length ≤ 200) (hb : ∀ x y, cell c x y = true → 0 ≤ x ∧ x < 1048576 ∧ 0 ≤ y ∧ y < 1048576) : regB c = true :=
 regB_iff.2 ⟨List.all_eq_true.2 fun r hr => okR_iff.2 (hf.box hb r hr), hl, hf⟩
theorem valid_true {a : List Rect} {d : Int} (h : regB a = true) (h0 : 0 ≤ d) (h1 : d ≤ 1048576) : validB a d = true := by
 unfold validB; rw [h]; simp [h0, h1]
theorem shrink_cases {a : List Rect} {d : Int} (h : regB a = true) (h0 : 0 ≤ d) (h1 : d ≤ 1048576) : shrinkX a d = .error 6 ∨ ∃ c, shrinkX a d = .ok c ∧ regB c = true ∧ ∀ x y, cell c x y = eroB d (cell a) x y := by
 unfold shrinkX
 rw [if_pos (valid_true h h0 h1)]
 obtain ⟨hf, hc⟩ := shrinkF_ok h0 (regB_iff.1 h).2.2
 by_cases h5 : 200 < (shrinkF d a).length
 ·rw [if_pos h5]; exact .inl rfl
 ·rw [if_neg h5]
  refine .inr ⟨_, rfl, reg_mk hf (by omega) fun x y hxy => ?_, hc⟩
  rw [hc, Rg.eroB_true] at hxy
  exact Rg.cell_box (reg_box h) (Rg.ero_sub h0 hxy)
end Go.Proofs.Ythkddpgnhaeooaa.Bm
