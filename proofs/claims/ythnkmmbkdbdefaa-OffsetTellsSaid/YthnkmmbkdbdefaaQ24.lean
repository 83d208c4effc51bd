/-
  Chapter 08: Within, and the small functions of the statements. Conditions: lists that are not too long.
-/
import Derived.Test.YthnkmmbkdbdefaaQ23
namespace Go.Proofs.Ythnkmmbkdbdefaa.Bm
open Go Go.RowKit
open Rg (Rect Slab runs runsF outT emit stripL canT slabsC winC shrinkX shrinkL cell)

def xsD (d : Int) (l : List Slab) : List Int := l.flatMap fun s => [s.x0 + d, s.x1 + d, s.x0 - d, s.x1 - d]
theorem xsD_cons (d : Int) (s : Slab) (l : List Slab) : xsD d (s :: l) = [s.x0 + d, s.x1 + d, s.x0 - d, s.x1 - d] ++ xsD d l := rfl
theorem xsD_len (d : Int) : ∀ l : List Slab, (xsD d l).length = 4 * l.length
  | [] => rfl
  | s :: l => by
    have e2 : (s :: l).length = l.length + 1 := rfl
    have e3 : [s.x0 + d, s.x1 + d, s.x0 - d, s.x1 - d].length = 4 := rfl
    rw [xsD_cons, List.length_append, xsD_len d l, e2, e3]; omega
theorem shrinkX_eq (d : Int) (T : List Slab) : shrinkX d T = Rg.sortU (xsD d (slabsC d T)) := by
  unfold shrinkX xsD slabsC
  rw [List.flatMap_map]
theorem lit_four (h : Heap) (a b c d : Int) : buildSliceT (some ⟨3, 1, 8, .int .i64 0, ⟨some false, some 1⟩⟩) false h 4 #[(0, .int .i64 a), (1, .int .i64 b), (2, .int .i64 c), (3, .int .i64 d)] = some (lst true [.int .i64 a, .int .i64 b, .int .i64 c, .int .i64 d], h) :=
  (build_lit' (n := 4) (l := [(0, .int .i64 a), (1, .int .i64 b), (2, .int .i64 c), (3, .int .i64 d)]) rfl rfl (by decide) (by decide) (by decide)).trans rfl
theorem app_four {h : Heap} {b lo : Nat} {c : List Int} (u v w x : Int) (hob : h[b]? = some (intR.row 3 c)) (hlo : lo ≤ b) (hc : c.length ≤ 1000000) :
    appendT (some ⟨3, 1, 8, .int .i64 0, ⟨some false, some 1⟩⟩) h lo false (intR.sl b c) (lst true [.int .i64 u, .int .i64 v, .int .i64 w, .int .i64 x]) = some (intR.sl b (c ++ [u, v, w, x]), h.set b (intR.row 3 (c ++ [u, v, w, x]))) :=
  Rec.app (R := intR) (m := [u, v, w, x]) rfl hob (cells_lst (by rfl)) hlo (by show (c.length + 4) * 8 ≤ 2 ^ 47; omega)
theorem canT_ne : ∀ {T : List Slab} {b : Int} {c : List (Int × Int)}, canT b c T → ∀ s ∈ T, s.col ≠ []
  | [], _, _, _, s, hs => by cases hs
  | u :: T, b, c, h, s, hs => by
    rcases List.mem_cons.1 hs with rfl | hs
    · exact h.2.2.1
    · exact canT_ne h.2.2.2.2.2 s hs
theorem sumL_pos : ∀ {T : List Slab}, (∀ s ∈ T, s.col ≠ []) → T.length ≤ Rg.sumL (fun s => s.col.length) T
  | [], _ => Nat.le_refl _
  | s :: T, h => by
    have h1 := sumL_pos (T := T) fun u hu => h u (by simp [hu])
    have h2 := List.length_pos_iff.2 (h s (by simp))
    show T.length + 1 ≤ s.col.length + Rg.sumL (fun s => s.col.length) T
    omega
theorem sumL_shr (d : Int) : ∀ T : List Slab, Rg.sumL (fun s => s.col.length) (slabsC d T) ≤ Rg.sumL (fun s => s.col.length) T
  | [] => Nat.le_refl _
  | s :: T => by
    have h1 := sumL_shr d T
    have h2 : (Rg.shr d s.col).length ≤ s.col.length := List.length_filterMap_le _ _
    show (Rg.shr d s.col).length + Rg.sumL (fun s => s.col.length) (slabsC d T) ≤ s.col.length + Rg.sumL (fun s => s.col.length) T
    omega
theorem bel_skp {a n : Nat} : below (a + 1) n skipV = true := rfl
/-- What is written so far. -/
structure GS where
  i : Nat
  P : List Rect
  x0 : Int
  w : List (Int × Int)
  kw : Option Bool
def GS.out (s : GS) (xs : List Int) : List Rect := if s.i = 0 then [] else s.P ++ emit ⟨s.x0, xs.getD s.i 0, s.w⟩
def GS.was (s : GS) : Value := if s.i = 0 then .slice none 0 0 else spanR.o s.kw s.w
def GS.ok (s : GS) (xs : List Int) (S : List Slab) (F : List Rect) : Prop := s.i ≤ S.length ∧ (s.i = 0 → s.P = []) ∧ (s.i ≠ 0 → s.P ++ outT (runs ⟨s.x0, xs.getD s.i 0, s.w⟩ (S.drop s.i)) = F) ∧ s.P.length + s.w.length ≤ bnd s.i ∧ s.w.length ≤ 5000 ∧ Rec.Ok s.kw s.w
def shrinkR (d : Int) (T : List Slab) : Except Int (List Rect) := if 200 < (shrinkL d T).length then .error 6 else .ok (shrinkL d T)

set_option maxHeartbeats 4000000 in
theorem shrink_walk (k : Option Bool) (T : List Slab) (d b : Int) (cc : List (Int × Int)) (hk : Rec.Ok k (outT T)) (hc : canT b cc T) (hd0 : 0 ≤ d) (hd1 : d ≤ 1048576) (hreg : regB (outT T) = true) :
    pureCall E.P (L E) 13 [rectR.o k (outT T), .int .i64 d] = some (resL (shrinkR d T)) := by
  obtain ⟨g1, g2, _⟩ := regB_iff.1 hreg
  have hok : ∀ r ∈ outT T, 0 ≤ r.x0 ∧ r.x0 < r.x1 ∧ r.x1 ≤ 1048576 ∧ 0 ≤ r.y0 ∧ r.y0 < r.y1 ∧ r.y1 ≤ 1048576 := fun r hr => by
    have := List.all_eq_true.1 g1 r hr
    unfold okR at this
    simp only [Bool.and_eq_true, decide_eq_true_eq] at this
    omega
  have hv := valid_spec k (outT T) d hk (by omega)
  rw [hreg, decide_eq_true hd0, decide_eq_true hd1] at hv
  simp only [Bool.and_self] at hv
  have hs := slabs_spec k T d b cc hk hc (by omega) fun r hr => by
    have := hok r hr
    exact ⟨wrap64 (by omega) (by omega), wrap64 (by omega) (by omega)⟩
  -- the slabs
  have hTl : T.length ≤ 200 ∧ Rg.sumL (fun s => s.col.length) (slabsC d T) ≤ 200 ∧ (∀ s ∈ slabsC d T, Rg.Can s.col) ∧ ∀ s ∈ slabsC d T, 0 ≤ s.x0 ∧ s.x1 ≤ 1048576 ∧ s.x0 < s.x1 := by
    have hne := canT_ne hc
    have h1 := sumL_pos hne
    rw [← Rg.outT_len T] at h1
    have h2 := sumL_shr d T
    rw [← Rg.outT_len T] at h2
    refine ⟨by omega, by omega, fun s hs => (Rg.rowT_pos (Rg.canT_row hd0 hc) s hs).2, fun s hs => ?_⟩
    obtain ⟨u, hu, rfl⟩ := List.mem_map.1 hs
    obtain ⟨y, hy⟩ := List.exists_mem_of_ne_nil _ (hne u hu)
    have := hok ⟨u.x0, y.1, u.x1, y.2⟩ (List.mem_flatMap.2 ⟨u, hu, List.mem_map.2 ⟨y, hy, rfl⟩⟩)
    simp only at this ⊢
    omega
  obtain ⟨hTl, hTs, hTc, hTx⟩ := hTl
  have hxx := shrinkX_eq d T
  unfold shrinkR shrinkL
  rw [hxx]
  have hCl : (slabsC d T).length ≤ 200 := by unfold slabsC; rw [List.length_map]; exact hTl
  generalize slabsC d T = C at *
  have win : ∀ x, IntKind.i64.wrap (x + d) = x + d → IntKind.i64.wrap (x - d) = x - d → ∃ k, Rec.Ok k (winC C x d) ∧ pureCall E.P (L E) 35 [lst false (oslabR.vals C), .int .i64 x, .int .i64 d] = some (spanR.o k (winC C x d)) ∧ (winC C x d).length ≤ 5000 := fun x h1 h2 => by
    obtain ⟨k, h3, h4⟩ := window_spec C x d (by omega) (by omega) hTc h1 h2
    have := winC_len C x d hTc
    exact ⟨k, h3, h4, by omega⟩
  have so : ∀ k l, settled depth (rectR.o k l) = true := fun k l => Rec.o_set
  have so1 : ∀ k l, settled depth (spanR.o k l) = true := fun k l => Rec.o_set
  have so2 : ∀ l, settled depth (lst false l) = true := fun _ => rfl
  have so3 : ∀ z, settled depth (.int .i64 z) = true := fun _ => rfl
  rw [pureCall_fn F13 rfl]
  simp -implicitDefEqProofs [r13, p13, ret0 m26, Rec.o_reify, hv, ret1 m32, so, so3, hs, prep_new, newK_nil s3, Rec.vals_len]
  rw [LL_for (γ := List Int) C [] (fun i c => [(7, intR.sl 0 c), (27, .int .i64 i)]) (fun _ c => [intR.row 3 c])
    (fun _ rest c => (.exit 0, [(7, intR.sl 0 (c ++ xsD d rest)), (27, undef)], [intR.row 3 (c ++ xsD d rest)])) (fun i c => c.length = 4 * i) (by omega) rfl]
  · rw [List.nil_append]
    have hel := xsD_len d C
    have so := sortInts (h := [intR.row 3 (xsD d C)]) (b := 0) (lo := 0) (d := xsD d C) rfl (Nat.le_refl _) (by omega)
    obtain ⟨r, co, hr⟩ := compInts (h := [intR.row 3 (sortI (xsD d C))]) (b := 0) (lo := 0) (d := sortI (xsD d C)) rfl (Nat.le_refl _) (by rw [sortI_len]; omega)
    have hsl : (sortI (xsD d C)).length = (xsD d C).length := sortI_len _
    rw [Rg.comp_sort] at co hr
    have e1 : intR.sl 0 (sortI (xsD d C)) = intR.sl 0 (xsD d C) := by unfold Rec.sl; rw [hsl]
    have s0 : ∀ a b : AObj, [a].set 0 b = [b] := fun _ _ => rfl
    rw [e1, s0] at co
    rw [s0] at so
    simp -implicitDefEqProofs [k13_6, ret2 (E := E) (f := 33) rfl, ret2 (E := E) (f := 34) rfl, so, co, prep_new, newK_nil s32]
    rw [hsl] at hr ⊢
    have hxb : ∀ x ∈ Rg.sortU (xsD d C), -2097152 ≤ x ∧ x ≤ 2097152 := fun x hx => by
      rw [Rg.sortU_mem] at hx
      obtain ⟨s, hs, hx⟩ := List.mem_flatMap.1 hx
      have := hTx s hs
      simp only [List.mem_cons, List.not_mem_nil, or_false] at hx
      omega
    generalize Rg.sortU (xsD d C) = xs at *
    generalize (xsD d C).length = n at *
    have hxl : xs.length ≤ 2000 := by rw [List.length_append] at hr; omega
    have hSl := Rg.stripL_len (fun x => winC C x d) xs
    have hSg := stripL_get (fun x => winC C x d) xs
    generalize hSe : stripL (fun x => winC C x d) xs = S at hSl hSg ⊢
    generalize hFe : outT (runsF S) = F
    clear co so hs hv hTx hTs hTc hxx hSe
    rw [LL_rec (α := GS) ⟨0, [], 0, [], none⟩ (fun s => [(10, rectR.sl 1 (s.out xs)), (11, s.was), (12, .int .i64 (s.P.length : Int)), (13, .int .i64 ((s.i + 1 : Nat) : Int))]) (fun s => [intR.row 3 (xs ++ r), rectR.row 39 (s.out xs)])
      (fun _ => (.exit 2, [(10, rectR.sl 1 F), (11, undef), (12, undef), (13, undef)], [intR.row 3 (xs ++ r), rectR.row 39 F])) (fun s => s.ok xs S F) (fun s => S.length - s.i)]
    · have rr := Rec.reify_row (R := rectR) (P := E.P) (n := 7) (h := [intR.row 3 (xs ++ r), rectR.row 39 F]) (b := 1) (t := 39) (l := F) rfl s32 a32
      by_cases h2 : 200 < F.length
      · have h2I : (200 : Int) < (F.length : Int) := by omega
        simp -implicitDefEqProofs [k13_16, Rec.sl_len, h2, h2I, resL]
      · have h2I : ¬ (200 : Int) < (F.length : Int) := by omega
        simp -implicitDefEqProofs [k13_16, Rec.sl_len, h2, h2I, rr, resL]
    · exact ⟨Nat.zero_le _, fun _ => rfl, fun h => absurd rfl h, Nat.zero_le _, Nat.zero_le _, fun _ => rfl⟩
    · simp -implicitDefEqProofs [k13_16, GS.out, GS.was, Rec.sl_nil]
    · rfl
    · intro nx s hI ih
      obtain ⟨i, P, x0, w, kw⟩ := s
      obtain ⟨h1, h2, h3, h4, h5, h6⟩ := hI
      simp only at h1 h2 h3 h4 h5 h6
      have hS2 : S.length ≤ 2000 := by omega
      have hgx : ∀ j (hj : j < xs.length), xs.getD j 0 = xs[j] := fun j hj => by rw [List.getD_eq_getElem?_getD, List.getElem?_eq_getElem hj]; rfl
      have w1 : IntKind.i64.wrap (((i + 1 : Nat) : Int) + 1) = ((i + 1 + 1 : Nat) : Int) := (wrap64 (by omega) (by omega)).trans (by omega)
      by_cases hi : i + 1 < xs.length
      · obtain ⟨hs, eS⟩ := hSg i hi
        have hdS : S.drop i = ⟨xs[i], xs[i + 1], winC C xs[i] d⟩ :: S.drop (i + 1) := by rw [List.drop_eq_getElem_cons hs, eS]
        have hxi := hxb xs[i] (List.getElem_mem _)
        obtain ⟨kk, q1, q2, q4⟩ := win xs[i] (wrap64 (by omega) (by omega)) (wrap64 (by omega) (by omega))
        generalize winC C xs[i] d = c at q1 q2 q4 hdS
        have w0 : IntKind.i64.wrap (((i + 1 : Nat) : Int) - 1) = (i : Int) := (wrap64 (by omega) (by omega)).trans (by omega)
        have hii : ((i + 1 : Nat) : Int) < (xs.length : Int) := by omega
        have ix0 := pre_index (t := 3) (g := some false) (b := 0) (n := n) (k := .i64) (e := xs) (i := i) (by omega)
        have ix1 := pre_index (t := 3) (g := some false) (b := 0) (n := n) (k := .i64) (e := xs) (i := i + 1) hi
        have ld0 := fun H => pre_load (h := intR.row 3 (xs ++ r) :: H) (b := 0) (n := n) (sz := some 1) rfl hr (show i < xs.length by omega)
        have ld1 := fun H => pre_load (h := intR.row 3 (xs ++ r) :: H) (b := 0) (n := n) (sz := some 1) rfl hr hi
        have wI : IntKind.i64.wrap (i : Int) = i := wrap64 (by omega) (by omega)
        have ix1c := ix1
        push_cast at ix1c
        have gx0 := hgx i (by omega)
        have gx1 := hgx (i + 1) hi
        by_cases hmg : i ≠ 0 ∧ c ≠ [] ∧ c = w
        · obtain ⟨hi0, hc0, hcw⟩ := hmg
          subst hcw
          have h3 := h3 hi0
          rw [hdS, Rg.runs_step (s := ⟨x0, xs.getD i 0, c⟩) (u := ⟨xs[i], xs[i + 1], c⟩) rfl] at h3
          have h4' : P.length + c.length ≤ bnd (i + 1) := by rw [bnd_succ]; omega
          have ih := ih ⟨i + 1, P, x0, c, kw⟩ (by show S.length - (i + 1) < S.length - i; omega) ⟨by show i + 1 ≤ S.length; omega, fun h => absurd h (Nat.succ_ne_zero i), fun _ => by show P ++ outT (runs ⟨x0, xs.getD (i + 1) 0, c⟩ (S.drop (i + 1))) = F; rw [gx1]; exact h3, h4', h5, h6⟩
          have eo : GS.out ⟨i, P, x0, c, kw⟩ xs = P ++ emit ⟨x0, xs[i], c⟩ := by unfold GS.out; rw [if_neg hi0, gx0]
          have eo1 : GS.out ⟨i + 1, P, x0, c, kw⟩ xs = P ++ emit ⟨x0, xs[i + 1], c⟩ := by unfold GS.out; rw [if_neg (Nat.succ_ne_zero i), gx1]
          have ew : GS.was ⟨i, P, x0, c, kw⟩ = spanR.o kw c := if_neg hi0
          have ew1 : GS.was ⟨i + 1, P, x0, c, kw⟩ = spanR.o kw c := if_neg (Nat.succ_ne_zero i)
          simp only [eo1, ew1] at ih
          simp only [eo, ew]
          have hiposN : 0 < i := by omega
          have hipos : (1 : Int) < ((i + 1 : Nat) : Int) := by omega
          have hcpos : 0 < c.length := List.length_pos_iff.2 hc0
          have hcpos' : (0 : Int) < (c.length : Int) := by omega
          have ci : pureCall E.P (L E) 36 [spanR.o kk c, spanR.o kw c] = some (.bool true) := by
            cases kk with
            | none => exact absurd (q1 rfl) hc0
            | some y => exact (equal_o kw y c c hc0 h6 (by omega)).trans (by rw [decide_eq_true rfl])
          have hlo : (P ++ emit ⟨x0, xs[i], c⟩).length = P.length + c.length := by rw [List.length_append, emit_len]
          simp -implicitDefEqProofs [k13_16] at ih
          simp -implicitDefEqProofs [r13_16, k13_16, pre_len, Rec.o_len q1, w0, hii, ix0, ld0, ret1 m35, so2, so3, q2, hipos, hcpos, ret0 m36, Rec.o_reify, ci, -Int.natCast_add]
          rw [LL_rec (α := Nat) 0 (fun j => [(15, .int .i64 ((P.length + j : Nat) : Int))]) (fun j => [intR.row 3 (xs ++ r), rectR.row 39 (P ++ (emit ⟨x0, xs[i + 1], c.take j⟩ ++ emit ⟨x0, xs[i], c.drop j⟩))])
            (fun _ => (.exit 4, [(15, undef)], [intR.row 3 (xs ++ r), rectR.row 39 (P ++ emit ⟨x0, xs[i + 1], c⟩)])) (fun j => j ≤ c.length) (fun j => c.length - j)]
          · have esl : rectR.sl 1 (P ++ emit ⟨x0, xs[i + 1], c⟩) = rectR.sl 1 (P ++ emit ⟨x0, xs[i], c⟩) := rect_sl (by rw [List.length_append, List.length_append, emit_len, emit_len])
            rw [esl] at ih
            simp -implicitDefEqProofs [k13_21, w1, trim_le, -Int.natCast_add]
            exact ih
          · exact Nat.zero_le _
          · simp -implicitDefEqProofs [k13_21]
          · rfl
          · intro nx j hj ih
            by_cases hjc : j < c.length
            · have ih := ih (j + 1) (by omega) (by omega)
              have hgt : P.length + j < (P ++ (emit ⟨x0, xs[i + 1], c.take j⟩ ++ emit ⟨x0, xs[i], c.drop j⟩)).length := by rw [out_len]; omega
              have eg : (P ++ (emit ⟨x0, xs[i + 1], c.take j⟩ ++ emit ⟨x0, xs[i], c.drop j⟩))[P.length + j] = ⟨x0, c[j].1, xs[i], c[j].2⟩ := by
                have := out_get (P := P) (x0 := x0) (x1 := xs[i]) (x2 := xs[i + 1]) hjc
                rw [List.getElem?_eq_getElem hgt] at this
                exact Option.some.inj this
              have es := out_set (P := P) (x0 := x0) (x1 := xs[i]) (x2 := xs[i + 1]) hjc
              have esl : rectR.sl 1 (P ++ emit ⟨x0, xs[i], c⟩) = rectR.sl 1 (P ++ (emit ⟨x0, xs[i + 1], c.take j⟩ ++ emit ⟨x0, xs[i], c.drop j⟩)) := rect_sl (by rw [out_len, hlo])
              have w2 : IntKind.i64.wrap (((P.length + j : Nat) : Int) + 1) = ((P.length + (j + 1) : Nat) : Int) := by
                have := bnd_le (i := i) (by omega)
                exact (wrap64 (by omega) (by omega)).trans (by omega)
              have hlt : ((P.length + j : Nat) : Int) < ((P.length + c.length : Nat) : Int) := by omega
              have hltN : P.length + j < P.length + c.length := by omega
              have ixr := Rec.index_row (R := rectR) (h0 := 4) (t := 39) (g := some true) (b := 1) (l := P ++ (emit ⟨x0, xs[i + 1], c.take j⟩ ++ emit ⟨x0, xs[i], c.drop j⟩)) (i := P.length + j) (k := .i64) rfl hgt
              rw [← esl] at ixr
              have fdr := Rec.field_row (R := rectR) (b := 1) (n := 0) (f := 2) (l := P ++ (emit ⟨x0, xs[i + 1], c.take j⟩ ++ emit ⟨x0, xs[i], c.drop j⟩)) (i := P.length + j) (k := ⟨some true, some 4⟩) (g := some false)
              have str := Rec.store_cell (R := rectR) (h := [intR.row 3 (xs ++ r), rectR.row 39 (P ++ (emit ⟨x0, xs[i + 1], c.take j⟩ ++ emit ⟨x0, xs[i], c.drop j⟩))]) (b := 1) (j := 2) (lo := 0) (t := 39) (l := P ++ (emit ⟨x0, xs[i + 1], c.take j⟩ ++ emit ⟨x0, xs[i], c.drop j⟩)) (i := P.length + j) (v := .int .i64 xs[i + 1]) (a := ⟨x0, c[j].1, xs[i + 1], c[j].2⟩) rfl rfl (Nat.zero_le _) hgt (by decide) (by rw [eg]; rfl)
              rw [es] at str
              generalize P ++ (emit ⟨x0, xs[i + 1], c.take j⟩ ++ emit ⟨x0, xs[i], c.drop j⟩) = oj at *
              generalize P ++ (emit ⟨x0, xs[i + 1], c.take (j + 1)⟩ ++ emit ⟨x0, xs[i], c.drop (j + 1)⟩) = oj1 at *
              generalize hQ : ((P.length + j : Nat) : Int) = Q at *
              generalize hQ1 : ((P.length + (j + 1) : Nat) : Int) = Q1 at *
              simp -implicitDefEqProofs [k13_21] at ih
              simp -implicitDefEqProofs [r13_21, k13_21, Rec.sl_len, hlo, hlt, w2, ix1, ld1, ixr, fdr, str, trim_le, -Int.natCast_add, -List.length_append]
              exact ih
            · have e1 : c.take j = c := List.take_of_length_le (by omega)
              have e2 : c.drop j = [] := List.drop_of_length_le (by omega)
              have e3 : emit ⟨x0, xs[i], []⟩ = [] := rfl
              have hlt : ¬ (((P.length + j : Nat) : Int) < ((P.length + c.length : Nat) : Int)) := by omega
              have hltN : ¬ (P.length + j < P.length + c.length) := by omega
              rw [e1, e2, e3, List.append_nil]
              simp -implicitDefEqProofs [r13_21, k13_21, Rec.sl_len, hlo, hlt, trim_le, -Int.natCast_add, -List.length_append]
        · have hnx : c = [] ∨ (i ≠ 0 → c ≠ w) := by
            by_cases h0 : c = []
            · exact .inl h0
            · exact .inr fun hi0 he => hmg ⟨hi0, h0, he⟩
          obtain ⟨o, ho⟩ : ∃ o, o = GS.out ⟨i, P, x0, w, kw⟩ xs := ⟨_, rfl⟩
          have hol : o.length ≤ bnd i := by
            rw [ho]; unfold GS.out
            split
            · exact Nat.zero_le _
            · rw [List.length_append, emit_len]; exact h4
          have hbi := bnd_le (i := i) (by omega)
          have h4' : o.length + c.length ≤ bnd (i + 1) := by rw [bnd_succ]; omega
          have hnew : o ++ outT (runs ⟨xs[i], xs[i + 1], c⟩ (S.drop (i + 1))) = F := by
            rw [ho]; unfold GS.out
            by_cases hi0 : i = 0
            · rw [if_pos hi0, List.nil_append, ← hFe]
              subst hi0
              rw [List.drop_zero] at hdS
              rw [hdS]; rfl
            · rw [if_neg hi0]
              have h3 := h3 hi0
              rw [hdS, next_run (s := ⟨xs[i], xs[i + 1], c⟩) (by rcases hnx with h | h; exact .inl h; exact .inr (h hi0)), ← List.append_assoc] at h3
              exact h3
          have ih := ih ⟨i + 1, o, xs[i], c, kk⟩ (by show S.length - (i + 1) < S.length - i; omega) ⟨by show i + 1 ≤ S.length; omega, fun h => absurd h (Nat.succ_ne_zero i), fun _ => by show o ++ outT (runs ⟨xs[i], xs.getD (i + 1) 0, c⟩ (S.drop (i + 1))) = F; rw [gx1]; exact hnew, h4', q4, q1⟩
          have eo1 : GS.out ⟨i + 1, o, xs[i], c, kk⟩ xs = o ++ emit ⟨xs[i], xs[i + 1], c⟩ := by unfold GS.out; rw [if_neg (Nat.succ_ne_zero i), gx1]
          have ew1 : GS.was ⟨i + 1, o, xs[i], c, kk⟩ = spanR.o kk c := if_neg (Nat.succ_ne_zero i)
          simp only [eo1, ew1] at ih
          simp only [← ho]
          simp -implicitDefEqProofs [k13_16, -Int.natCast_add] at ih
          have hG : (0 < i ∧ 0 < c.length → ∃ m, GS.was ⟨i, P, x0, w, kw⟩ = spanR.o m w ∧ Rec.Ok m w ∧ decide (c = w) = false) := fun ⟨h, h'⟩ => by
            have hi0 : i ≠ 0 := by omega
            refine ⟨kw, if_neg hi0, h6, decide_eq_false fun e => ?_⟩
            rcases hnx with h0 | h0
            · subst h0; simp at h'
            · exact h0 hi0 e
          generalize GS.was ⟨i, P, x0, w, kw⟩ = wv at hG ⊢
          by_cases gi : 0 < i
          · have gi1 : (1 : Int) < ((i + 1 : Nat) : Int) := by omega
            by_cases gc : 0 < c.length
            · obtain ⟨m, ew, hmw, ed⟩ := hG ⟨gi, gc⟩
              subst ew
              have hc0 : c ≠ [] := List.length_pos_iff.1 gc
              have gc1 : (0 : Int) < (c.length : Int) := by omega
              have cw : pureCall E.P (L E) 36 [spanR.o kk c, spanR.o m w] = some (.bool false) := by
                cases kk with
                | none => exact absurd (q1 rfl) hc0
                | some y => exact (equal_o m y c w hc0 hmw (by omega)).trans (by rw [ed])
              simp -implicitDefEqProofs [r13_16, k13_16, pre_len, Rec.o_len q1, w0, hii, ix0, ld0, ret1 m35, so2, so3, q2, gi1, gc, ret0 m36, cw, Rec.o_reify, Rec.sl_len, -Int.natCast_add]
              have st17 := fun (o' : List Rect) (j : Nat) (hj : j < c.length) (ho : o'.length ≤ 200000000) (q : AObj) => app_rect (h := [intR.row 3 (xs ++ r), rectR.row 39 o', q]) (b := 1) (lo := 0) (c := o') ⟨xs[i], c[j].1, xs[i + 1], c[j].2⟩ rfl (Nat.zero_le _) (by omega)
              rw [LL_for (γ := List Rect) c o (fun j o' => [(10, rectR.sl 1 o'), (101, .int .i64 (j : Int))]) (fun _ o' => [intR.row 3 (xs ++ r), rectR.row 39 o'])
                (fun _ rest o' => (.exit 6, [(10, rectR.sl 1 (o' ++ emit ⟨xs[i], xs[i + 1], rest⟩)), (101, undef)], [intR.row 3 (xs ++ r), rectR.row 39 (o' ++ emit ⟨xs[i], xs[i + 1], rest⟩)])) (fun j o' => o'.length = o.length + j) (by omega) rfl]
              · simp -implicitDefEqProofs [k13_26, w1, trim_le, -Int.natCast_add]
                exact ih
              · simp -implicitDefEqProofs [k13_26]
              · rfl
              · intro nx j o' hj _
                have e0 : emit ⟨xs[i], xs[i + 1], []⟩ = [] := rfl
                simp -implicitDefEqProofs [r13_26, k13_26, hj, e0, trim_le]
              · intro nx j s rest o' hj hv hd hw ho ih
                have st := st17 o' j hj (by omega)
                have ixj := Rec.o_index (R := spanR) (t := 58) (kk := .i64) (s := 2) rfl q1 hj
                rw [hv] at st ixj
                have ih := ih (o' ++ [⟨xs[i], s.1, xs[i + 1], s.2⟩]) (by rw [List.length_append]; show o'.length + 1 = _; omega)
                rw [emit_cons, ← List.append_assoc]
                simp -implicitDefEqProofs [k13_26, -List.append_assoc] at ih
                simp -implicitDefEqProofs [r13_26, k13_26, hj, ixj, span_val, wI, ix0, ix1c, ld0, ld1, hw, b4_all, lit_rect, st, trim_cut, pre_bel, Rec.sl_bel, Rec.row_bel, Rec.o_bel, -List.append_assoc]
                exact ih
            · have gc1 : ¬ (0 : Int) < (c.length : Int) := by omega
              simp -implicitDefEqProofs [r13_16, k13_16, pre_len, Rec.o_len q1, w0, hii, ix0, ld0, ret1 m35, so2, so3, q2, gi1, gc, Rec.sl_len, -Int.natCast_add]
              have st17 := fun (o' : List Rect) (j : Nat) (hj : j < c.length) (ho : o'.length ≤ 200000000) (q : AObj) => app_rect (h := [intR.row 3 (xs ++ r), rectR.row 39 o', q]) (b := 1) (lo := 0) (c := o') ⟨xs[i], c[j].1, xs[i + 1], c[j].2⟩ rfl (Nat.zero_le _) (by omega)
              rw [LL_for (γ := List Rect) c o (fun j o' => [(10, rectR.sl 1 o'), (101, .int .i64 (j : Int))]) (fun _ o' => [intR.row 3 (xs ++ r), rectR.row 39 o'])
                (fun _ rest o' => (.exit 6, [(10, rectR.sl 1 (o' ++ emit ⟨xs[i], xs[i + 1], rest⟩)), (101, undef)], [intR.row 3 (xs ++ r), rectR.row 39 (o' ++ emit ⟨xs[i], xs[i + 1], rest⟩)])) (fun j o' => o'.length = o.length + j) (by omega) rfl]
              · simp -implicitDefEqProofs [k13_26, w1, trim_le, -Int.natCast_add]
                exact ih
              · simp -implicitDefEqProofs [k13_26]
              · rfl
              · intro nx j o' hj _
                have e0 : emit ⟨xs[i], xs[i + 1], []⟩ = [] := rfl
                simp -implicitDefEqProofs [r13_26, k13_26, hj, e0, trim_le]
              · intro nx j s rest o' hj hv hd hw ho ih
                have st := st17 o' j hj (by omega)
                have ixj := Rec.o_index (R := spanR) (t := 58) (kk := .i64) (s := 2) rfl q1 hj
                rw [hv] at st ixj
                have ih := ih (o' ++ [⟨xs[i], s.1, xs[i + 1], s.2⟩]) (by rw [List.length_append]; show o'.length + 1 = _; omega)
                rw [emit_cons, ← List.append_assoc]
                simp -implicitDefEqProofs [k13_26, -List.append_assoc] at ih
                simp -implicitDefEqProofs [r13_26, k13_26, hj, ixj, span_val, wI, ix0, ix1c, ld0, ld1, hw, b4_all, lit_rect, st, trim_cut, pre_bel, bel_skp, Rec.sl_bel, Rec.row_bel, Rec.o_bel, -List.append_assoc]
                exact ih
          · have gi1 : ¬ (1 : Int) < ((i + 1 : Nat) : Int) := by omega
            simp -implicitDefEqProofs [r13_16, k13_16, pre_len, Rec.o_len q1, w0, hii, ix0, ld0, ret1 m35, so2, so3, q2, gi1, Rec.sl_len, -Int.natCast_add]
            have st17 := fun (o' : List Rect) (j : Nat) (hj : j < c.length) (ho : o'.length ≤ 200000000) (q : AObj) => app_rect (h := [intR.row 3 (xs ++ r), rectR.row 39 o', q]) (b := 1) (lo := 0) (c := o') ⟨xs[i], c[j].1, xs[i + 1], c[j].2⟩ rfl (Nat.zero_le _) (by omega)
            rw [LL_for (γ := List Rect) c o (fun j o' => [(10, rectR.sl 1 o'), (101, .int .i64 (j : Int))]) (fun _ o' => [intR.row 3 (xs ++ r), rectR.row 39 o'])
              (fun _ rest o' => (.exit 6, [(10, rectR.sl 1 (o' ++ emit ⟨xs[i], xs[i + 1], rest⟩)), (101, undef)], [intR.row 3 (xs ++ r), rectR.row 39 (o' ++ emit ⟨xs[i], xs[i + 1], rest⟩)])) (fun j o' => o'.length = o.length + j) (by omega) rfl]
            · simp -implicitDefEqProofs [k13_26, w1, trim_le, -Int.natCast_add]
              exact ih
            · simp -implicitDefEqProofs [k13_26]
            · rfl
            · intro nx j o' hj _
              have e0 : emit ⟨xs[i], xs[i + 1], []⟩ = [] := rfl
              simp -implicitDefEqProofs [r13_26, k13_26, hj, e0, trim_le]
            · intro nx j s rest o' hj hv hd hw ho ih
              have st := st17 o' j hj (by omega)
              have ixj := Rec.o_index (R := spanR) (t := 58) (kk := .i64) (s := 2) rfl q1 hj
              rw [hv] at st ixj
              have ih := ih (o' ++ [⟨xs[i], s.1, xs[i + 1], s.2⟩]) (by rw [List.length_append]; show o'.length + 1 = _; omega)
              rw [emit_cons, ← List.append_assoc]
              simp -implicitDefEqProofs [k13_26, -List.append_assoc] at ih
              simp -implicitDefEqProofs [r13_26, k13_26, hj, ixj, span_val, wI, ix0, ix1c, ld0, ld1, hw, b4_all, lit_rect, st, trim_cut, pre_bel, bel_skp, Rec.sl_bel, Rec.row_bel, Rec.o_bel, -List.append_assoc]
              exact ih
      · have hfin : i = S.length := by omega
        have hout : GS.out ⟨i, P, x0, w, kw⟩ xs = F := by
          unfold GS.out
          by_cases hi0 : i = 0
          · rw [if_pos hi0, ← hFe]
            have : S = [] := List.eq_nil_of_length_eq_zero (by omega)
            rw [this]; rfl
          · rw [if_neg hi0]
            have h3 := h3 hi0
            rw [List.drop_of_length_le (by omega), Rg.runs_end] at h3
            exact h3
        have hii : ¬ (((i + 1 : Nat) : Int) < (xs.length : Int)) := by omega
        rw [hout]
        simp -implicitDefEqProofs [r13_16, k13_16, pre_len, hii, trim_le, -Int.natCast_add]
  · simp -implicitDefEqProofs [k13_6, Rec.sl_nil]
  · rfl
  · intro nx i c hi _
    simp -implicitDefEqProofs [r13_6, k13_6, hi, trim_le, xsD]
  · intro nx i s rest c hi hv hd hw hc ih
    have ixi := Rec.index_tree (R := oslabR) (x := false) (t := 52) (k := .i64) (h0 := 3) rfl hi
    rw [hv, oslab_val] at ixi
    have hx := hTx s (by rw [← hv]; exact List.getElem_mem hi)
    have w1 : IntKind.i64.wrap (s.x0 + d) = s.x0 + d := wrap64 (by omega) (by omega)
    have w2 : IntKind.i64.wrap (s.x1 + d) = s.x1 + d := wrap64 (by omega) (by omega)
    have w3 : IntKind.i64.wrap (s.x0 - d) = s.x0 - d := wrap64 (by omega) (by omega)
    have w4 : IntKind.i64.wrap (s.x1 - d) = s.x1 - d := wrap64 (by omega) (by omega)
    have ap := fun q => app_four (h := [intR.row 3 c, q]) (b := 0) (lo := 0) (c := c) (s.x0 + d) (s.x1 + d) (s.x0 - d) (s.x1 - d) rfl (Nat.le_refl _) (by omega)
    have ocells : ∀ c, cellsOf (ocol c) = some [ocol c] := fun c => Rec.o_cellsOf
    have ih := ih (c ++ [s.x0 + d, s.x1 + d, s.x0 - d, s.x1 - d]) (by rw [List.length_append]; show c.length + 4 = _; omega)
    rw [xsD_cons, ← List.append_assoc]
    simp -implicitDefEqProofs [k13_6, -List.append_assoc] at ih
    simp -implicitDefEqProofs [r13_6, k13_6, hi, ixi, w1, w2, w3, w4, lit_four, ap, hw, trim_cut, Rec.sl_bel, Rec.row_bel, Rec.o_bel, -List.append_assoc]
    exact ih
end Go.Proofs.Ythnkmmbkdbdefaa.Bm

namespace Go.Proofs.Ythnkmmbkdbdefaa.Bm
open Go Go.RowKit
open Rg (Rect Slab gapR canT outT)

noncomputable def slabsOf (a : List Rect) : List Slab := @dite _ (∃ T : List Slab, ∃ b : Int, canT b [] T ∧ a = outT T) (Classical.propDecidable _) (fun h => Classical.choose h) (fun _ => [])
theorem slabsOf_ok {a : List Rect} (h : Rg.Form a) : ∃ b, canT b [] (slabsOf a) ∧ a = outT (slabsOf a) := by
  have h' : ∃ T : List Slab, ∃ b : Int, canT b [] T ∧ a = outT T := by
    obtain ⟨b, T, h1, h2⟩ := h
    exact ⟨T, b, h1, h2⟩
  unfold slabsOf
  rw [dif_pos h']
  exact Classical.choose_spec h'
noncomputable def shrinkF (d : Int) (a : List Rect) : List Rect := Rg.shrinkL d (slabsOf a)
noncomputable def shrinkX (a : List Rect) (d : Int) : Except Int (List Rect) := if validB a d then (if 200 < (shrinkF d a).length then .error 6 else .ok (shrinkF d a)) else .error 1
theorem shrink_spec (k : Option Bool) (a : List Rect) (d : Int) (hk : Rec.Ok k a) (ha : a.length ≤ 1000000) : pureCall E.P (L E) 13 [rectR.o k a, .int .i64 d] = some (resL (shrinkX a d)) := by
  have hv := valid_spec k a d hk ha
  change pureCall _ _ _ _ = some (.bool (validB a d)) at hv
  unfold shrinkX
  cases h0 : validB a d
  · rw [h0] at hv
    rw [pureCall_fn F13 rfl]
    simp -implicitDefEqProofs [r13, p13, ret0 m26, Rec.o_reify, hv, resL]
  · have hvb := h0
    unfold validB at hvb
    simp only [Bool.and_eq_true, decide_eq_true_eq] at hvb
    obtain ⟨⟨h1, h2⟩, h3⟩ := hvb
    obtain ⟨_, _, hF⟩ := regB_iff.1 h3
    obtain ⟨b, hc, ea⟩ := slabsOf_ok hF
    have key := shrink_walk k (slabsOf a) d b [] (by rw [← ea]; exact hk) hc h1 h2 (by rw [← ea]; exact h3)
    rw [← ea] at key
    rw [key, if_pos rfl]
    rfl
theorem shrinkF_ok {d : Int} (hd : 0 ≤ d) {a : List Rect} (h : Rg.Form a) : Rg.Form (shrinkF d a) ∧ ∀ x y, Rg.cell (shrinkF d a) x y = Rg.eroB d (Rg.cell a) x y := by
  obtain ⟨b, hc, ea⟩ := slabsOf_ok h
  have := Rg.shrink_ok hd hc
  rw [← ea] at this
  exact this

/-! ### Gap -/
def gapS (r : Rect) (m : Int) (b : List Rect) : Int := b.foldl (fun m s => min m (gapR r s)) m
def gapL (m : Int) (a b : List Rect) : Int := a.foldl (fun m r => gapS r m b) m
def gapOk (a b : List Rect) : Bool := !a.isEmpty && !b.isEmpty && regB a && regB b
def gapX (a b : List Rect) : Int × Bool := if gapOk a b then (gapL 1048576 a b, true) else (0, false)
set_option maxHeartbeats 1000000 in
theorem gap_spec (k m : Option Bool) (a b : List Rect) (hk : Rec.Ok k a) (hm : Rec.Ok m b) (ha : a.length ≤ 1000000) (hb : b.length ≤ 1000000) : pureCall E.P (L E) 15 [rectR.o k a, rectR.o m b] = some (.tuple ⟨[.int .i64 (gapX a b).1, .bool (gapX a b).2]⟩) := by
  have r1 := right2_spec k a hk ha
  have r2 := right2_spec m b hm hb
  rw [pureCall_fn F15 rfl]
  unfold gapX gapOk
  by_cases ea : a = []
  · subst ea
    simp -implicitDefEqProofs [r15, p15, Rec.o_len hk]
  have la : ¬ ((a.length : Int) = 0) := by have := List.length_pos_iff.2 ea; omega
  by_cases eb : b = []
  · subst eb
    simp -implicitDefEqProofs [r15, p15, Rec.o_len hk, Rec.o_len hm, ea]
  have lb : ¬ ((b.length : Int) = 0) := by have := List.length_pos_iff.2 eb; omega
  cases ga : regB a
  · rw [ga] at r1
    simp -implicitDefEqProofs [r15, p15, Rec.o_len hk, Rec.o_len hm, ea, eb, ret0 m39, Rec.o_reify, r1]
  cases gb : regB b
  · rw [ga] at r1
    rw [gb] at r2
    simp -implicitDefEqProofs [r15, p15, Rec.o_len hk, Rec.o_len hm, ea, eb, ret0 m39, Rec.o_reify, r1, r2]
  rw [ga] at r1
  rw [gb] at r2
  have oka := List.all_eq_true.1 (regB_iff.1 ga).1
  have okb := List.all_eq_true.1 (regB_iff.1 gb).1
  simp -implicitDefEqProofs [r15, p15, Rec.o_len hk, Rec.o_len hm, ea, eb, ret0 m39, Rec.o_reify, r1, r2]
  rw [LL_for (γ := Int) a 1048576 (fun i z => [(6, .int .i64 z), (31, .int .i64 i)]) (fun _ _ => []) (fun _ rest z => (.exit 0, [(6, .int .i64 (gapL z rest b)), (31, undef)], [])) (fun _ _ => True) (by omega) trivial]
  · simp -implicitDefEqProofs [k15_5]
  · simp -implicitDefEqProofs [k15_5]
  · rfl
  · intro nx i z hi _
    simp -implicitDefEqProofs [r15_5, k15_5, hi, trim_le, gapL]
  · intro nx i r rest z hi hv hd hw _ ih
    have ixi := Rec.o_index (R := rectR) (t := 39) (kk := .i64) (s := 4) rfl hk hi
    rw [hv, rect_val] at ixi
    have hr : okR r = true := oka r (by rw [← hv]; exact List.getElem_mem hi)
    have ih := ih (gapS r z b) trivial
    have el : gapL z (r :: rest) b = gapL (gapS r z b) rest b := rfl
    rw [el]
    simp -implicitDefEqProofs [k15_5] at ih
    simp -implicitDefEqProofs [r15_5, k15_5, hi, ixi, Rec.o_len hm]
    rw [LL_for (γ := Int) b z (fun i z => [(6, .int .i64 z), (37, .int .i64 i)]) (fun _ _ => [boxO r]) (fun _ rest z => (.exit 2, [(6, .int .i64 (gapS r z rest)), (37, undef)], [boxO r])) (fun _ _ => True) (by omega) trivial]
    · simp -implicitDefEqProofs [k15_8, hw, trim_cut, Rec.o_bel]
      exact ih
    · simp -implicitDefEqProofs [k15_8]
    · rfl
    · intro nx j z hj _
      simp -implicitDefEqProofs [r15_8, k15_8, hj, trim_le, gapS]
    · intro nx j s rest' z hj hv' hd' hw' _ ih
      have ixj := Rec.o_index (R := rectR) (t := 39) (kk := .i64) (s := 4) rfl hm hj
      rw [hv', rect_val] at ixj
      have hs : okR s = true := okb s (by rw [← hv']; exact List.getElem_mem hj)
      have gg := gap_r r s hr hs
      simp only [rect_val] at gg
      have ih := ih (min z (gapR r s)) trivial
      have el : gapS r z (s :: rest') = gapS r (min z (gapR r s)) rest' := rfl
      rw [el]
      unfold boxO at ih ⊢
      simp -implicitDefEqProofs [k15_8] at ih
      simp -implicitDefEqProofs [r15_8, k15_8, hj, ixj, ret0 m40, gg, min_int, hw', trim_cut, Rec.o_bel]
      exact ih
end Go.Proofs.Ythnkmmbkdbdefaa.Bm

namespace Go.Proofs.Ythnkmmbkdbdefaa.Bm
open Go Go.RowKit
open Rg (Rect cell growL growR gapR Gro Ero eroB)

theorem reg_box {a : List Rect} (h : regB a = true) : ∀ r ∈ a, r.inBox 1048576 := fun r hr => okR_iff.1 (List.all_eq_true.1 (regB_iff.1 h).1 r hr)
theorem reg_len {a : List Rect} (h : regB a = true) : a.length ≤ 200 := (regB_iff.1 h).2.1
theorem reg_y {a : List Rect} (h : regB a = true) : ∀ r ∈ a, r.y0 < r.y1 := ofL_ok' (regB_iff.1 h).1
theorem reg_ext {a b : List Rect} (ha : regB a = true) (hb : regB b = true) (h : ∀ x y, cell a x y = cell b x y) : a = b := (regB_iff.1 ha).2.2.ext (regB_iff.1 hb).2.2 h
theorem reg_mk {c : List Rect} (hf : Rg.Form c) (hl : c.length ≤ 200) (hb : ∀ x y, cell c x y = true → 0 ≤ x ∧ x < 1048576 ∧ 0 ≤ y ∧ y < 1048576) : regB c = true :=
  regB_iff.2 ⟨List.all_eq_true.2 fun r hr => okR_iff.2 (hf.box hb r hr), hl, hf⟩
theorem valid_true {a : List Rect} {d : Int} (h : regB a = true) (h0 : 0 ≤ d) (h1 : d ≤ 1048576) : validB a d = true := by
  unfold validB; rw [h]; simp [h0, h1]
theorem grow_cases {a : List Rect} {d : Int} (h : regB a = true) (h0 : 0 ≤ d) (h1 : d ≤ 1048576) : growX a d = .error 6 ∨ ∃ c, growX a d = .ok c ∧ regB c = true ∧ ∀ x y, cell c x y = cell (growL d a) x y := by
  have hb := Rg.growL_box h0 (reg_box h)
  have hk : (growL d a).all okR = true := List.all_eq_true.2 fun r hr => okR_iff.2 (hb r hr)
  unfold growX
  rw [if_pos (valid_true h h0 h1)]
  unfold ofR
  rw [if_pos hk]
  by_cases h4 : 400 < (growL d a).length
  · rw [if_pos h4]; exact .inl rfl
  rw [if_neg h4]
  obtain ⟨hf, hc⟩ := Rg.ofL_ok (ofL_ok' hk)
  by_cases h5 : (Rg.ofL (growL d a)).length ≤ 200
  · rw [if_pos h5]
    exact .inr ⟨_, rfl, reg_mk hf h5 fun x y hxy => Rg.cell_box hb (by rw [← hc]; exact hxy), hc⟩
  · rw [if_neg h5]; exact .inl rfl
theorem shrink_cases {a : List Rect} {d : Int} (h : regB a = true) (h0 : 0 ≤ d) (h1 : d ≤ 1048576) : shrinkX a d = .error 6 ∨ ∃ c, shrinkX a d = .ok c ∧ regB c = true ∧ ∀ x y, cell c x y = eroB d (cell a) x y := by
  unfold shrinkX
  rw [if_pos (valid_true h h0 h1)]
  obtain ⟨hf, hc⟩ := shrinkF_ok h0 (regB_iff.1 h).2.2
  by_cases h5 : 200 < (shrinkF d a).length
  · rw [if_pos h5]; exact .inl rfl
  · rw [if_neg h5]
    refine .inr ⟨_, rfl, reg_mk hf (by omega) fun x y hxy => ?_, hc⟩
    rw [hc, Rg.eroB_true] at hxy
    exact Rg.cell_box (reg_box h) (Rg.ero_sub h0 hxy)
theorem grow_true {a c : List Rect} {d : Int} (h : regB a = true) (h0 : 0 ≤ d) (hc : ∀ x y, cell c x y = cell (growL d a) x y) {x y : Int} : cell c x y = true ↔ Gro d (cell a) x y := by
  rw [hc]; exact Rg.grow_cell h0 (reg_box h)

/-! ### Sums of distances -/
theorem grow_adds {a x y z : List Rect} {d n : Int} (h : regB a = true) (h0 : 0 ≤ d) (h1 : 0 ≤ n) (h2 : d + n ≤ 1048576) (e : growX a d = .ok x) (f : growX x n = .ok y) (g : growX a (d + n) = .ok z) : y = z := by
  rcases grow_cases h h0 (by omega) with q | ⟨x', q, rx, cx⟩
  · rw [e] at q; cases q
  rw [e] at q; cases q
  rcases grow_cases rx h1 (by omega) with q | ⟨y', q, ry, cy⟩
  · rw [f] at q; cases q
  rw [f] at q; cases q
  rcases grow_cases h (show 0 ≤ d + n by omega) h2 with q | ⟨z', q, rz, cz⟩
  · rw [g] at q; cases q
  rw [g] at q; cases q
  refine reg_ext ry rz fun u v => Bool.eq_iff_iff.2 ?_
  rw [grow_true rx h1 cy, grow_true h (by omega) cz]
  exact Rg.gro_gro h0 h1 (fun _ _ hs => Rg.cell_box (reg_box h) hs) fun _ _ => grow_true h h0 cx
theorem shrink_adds {a x y z : List Rect} {d n : Int} (h : regB a = true) (h0 : 0 ≤ d) (h1 : 0 ≤ n) (h2 : d + n ≤ 1048576) (e : shrinkX a d = .ok x) (f : shrinkX x n = .ok y) (g : shrinkX a (d + n) = .ok z) : y = z := by
  rcases shrink_cases h h0 (by omega) with q | ⟨x', q, rx, cx⟩
  · rw [e] at q; cases q
  rw [e] at q; cases q
  rcases shrink_cases rx h1 (by omega) with q | ⟨y', q, ry, cy⟩
  · rw [f] at q; cases q
  rw [f] at q; cases q
  rcases shrink_cases h (show 0 ≤ d + n by omega) h2 with q | ⟨z', q, rz, cz⟩
  · rw [g] at q; cases q
  rw [g] at q; cases q
  refine reg_ext ry rz fun u v => Bool.eq_iff_iff.2 ?_
  rw [cy, cz, Rg.eroB_true, Rg.eroB_true]
  exact Rg.ero_ero h0 h1 fun i k => by rw [cx, Rg.eroB_true]

/-! ### What lies inside -/
def insideB (a b : List Rect) : Bool := (refL subF a b).isEmpty
theorem empty_iff {l : List Rect} (h : Rg.Form l) : l.isEmpty = true ↔ ∀ x y, cell l x y = false := by
  rw [List.isEmpty_iff]
  constructor
  · rintro rfl x y; rfl
  · intro hc
    cases l with
    | nil => rfl
    | cons r l =>
      have hp := h.pos r (List.mem_cons_self ..)
      have : cell (r :: l) r.x0 r.y0 = true := Rg.cell_true.2 ⟨r, List.mem_cons_self .., Int.le_refl r.x0, hp.1, Int.le_refl r.y0, hp.2⟩
      rw [hc] at this; cases this
theorem inside_iff {a b : List Rect} (ha : regB a = true) (hb : regB b = true) : insideB a b = true ↔ ∀ x y, cell a x y = true → cell b x y = true := by
  obtain ⟨h1, h2⟩ := refL_ok subF rfl (reg_y ha) (reg_y hb)
  unfold insideB
  rw [empty_iff h1]
  constructor
  · intro h x y hx
    have := h x y
    rw [h2, hx] at this
    unfold subF at this
    simpa using this
  · intro h x y
    rw [h2]
    cases q : cell a x y
    · rfl
    · rw [h x y q]; rfl
theorem open_inside {a s o : List Rect} {d : Int} (h : regB a = true) (h0 : 0 ≤ d) (h1 : d ≤ 1048576) (e : shrinkX a d = .ok s) (f : growX s d = .ok o) : insideB o a = true := by
  rcases shrink_cases h h0 h1 with q | ⟨s', q, rs, cs⟩
  · rw [e] at q; cases q
  rw [e] at q; cases q
  rcases grow_cases rs h0 h1 with q | ⟨o', q, ro, co⟩
  · rw [f] at q; cases q
  rw [f] at q; cases q
  rw [inside_iff ro h]
  intro x y hx
  obtain ⟨_, i, k, q1, q2, q3, q4, hs⟩ := (grow_true rs h0 co).1 hx
  rw [cs, Rg.eroB_true] at hs
  exact hs x y (by omega) (by omega) (by omega) (by omega)
theorem adjoint {a b s g : List Rect} {d : Int} (ha : regB a = true) (hb : regB b = true) (h0 : 0 ≤ d) (h1 : d ≤ 1048576) (e : shrinkX a d = .ok s) (f : growX b d = .ok g) (far : ∀ r ∈ b, d ≤ r.x0 ∧ d ≤ r.y0 ∧ r.x1 ≤ 1048576 - d ∧ r.y1 ≤ 1048576 - d) : insideB g a = insideB b s := by
  rcases shrink_cases ha h0 h1 with q | ⟨s', q, rs, cs⟩
  · rw [e] at q; cases q
  rw [e] at q; cases q
  rcases grow_cases hb h0 h1 with q | ⟨g', q, rg, cg⟩
  · rw [f] at q; cases q
  rw [f] at q; cases q
  rw [Bool.eq_iff_iff, inside_iff rg ha, inside_iff hb rs]
  constructor
  · intro h x y hx
    rw [cs, Rg.eroB_true]
    intro i k q1 q2 q3 q4
    refine h i k ((grow_true hb h0 cg).2 ⟨?_, x, y, by omega, by omega, by omega, by omega, hx⟩)
    obtain ⟨r, hr, p1, p2, p3, p4⟩ := Rg.cell_true.1 hx
    have := far r hr
    omega
  · intro h x y hx
    obtain ⟨_, i, k, q1, q2, q3, q4, hs⟩ := (grow_true hb h0 cg).1 hx
    have := h i k hs
    rw [cs, Rg.eroB_true] at this
    exact this x y (by omega) (by omega) (by omega) (by omega)

/-! ### Gaps -/
theorem gapS_le {r : Rect} {d : Int} : ∀ {b : List Rect} {m : Int}, gapS r m b ≤ d ↔ m ≤ d ∨ ∃ s ∈ b, gapR r s ≤ d
  | [], m => by simp [gapS]
  | s :: b, m => by
    have ih := gapS_le (r := r) (d := d) (b := b) (m := min m (gapR r s))
    show gapS r (min m (gapR r s)) b ≤ d ↔ _
    rw [ih]
    simp only [List.mem_cons, exists_eq_or_imp]
    constructor
    · rintro (h | h)
      · by_cases h1 : m ≤ d
        · exact .inl h1
        · exact .inr (.inl (by omega))
      · exact .inr (.inr h)
    · rintro (h | h | h)
      · exact .inl (by omega)
      · exact .inl (by omega)
      · exact .inr h
theorem gapL_le {d : Int} {b : List Rect} : ∀ {a : List Rect} {m : Int}, gapL m a b ≤ d ↔ m ≤ d ∨ ∃ r ∈ a, ∃ s ∈ b, gapR r s ≤ d
  | [], m => by simp [gapL]
  | r :: a, m => by
    have ih := gapL_le (d := d) (b := b) (a := a) (m := gapS r m b)
    show gapL (gapS r m b) a b ≤ d ↔ _
    rw [ih, gapS_le]
    simp only [List.mem_cons, exists_eq_or_imp]
    constructor
    · rintro ((h | h) | h)
      · exact .inl h
      · exact .inr (.inl h)
      · exact .inr (.inr h)
    · rintro (h | h | h)
      · exact .inl (.inl h)
      · exact .inl (.inr h)
      · exact .inr h
theorem int_ext {m n : Int} (h : ∀ d, m ≤ d ↔ n ≤ d) : m = n := by
  have h1 := (h n).2 (Int.le_refl _)
  have h2 := (h m).1 (Int.le_refl _)
  omega
theorem gapL_comm (m : Int) (a b : List Rect) : gapL m a b = gapL m b a := int_ext fun d => by
  rw [gapL_le, gapL_le]
  constructor
  · rintro (h | ⟨r, hr, s, hs, h⟩)
    · exact .inl h
    · exact .inr ⟨s, hs, r, hr, by rw [Rg.gapR_comm]; exact h⟩
  · rintro (h | ⟨r, hr, s, hs, h⟩)
    · exact .inl h
    · exact .inr ⟨s, hs, r, hr, by rw [Rg.gapR_comm]; exact h⟩
theorem gapL_pos (a b : List Rect) : 0 ≤ gapL 1048576 a b := by
  by_cases h : gapL 1048576 a b ≤ -1
  · rcases gapL_le.1 h with h | ⟨r, _, s, _, h⟩
    · omega
    · unfold gapR at h; omega
  · omega
theorem gapOk_eq {a b : List Rect} (ha : regB a = true) (hb : regB b = true) : gapOk a b = (decide (0 < a.length) && decide (0 < b.length)) := by
  unfold gapOk
  rw [ha, hb]
  cases a <;> cases b <;> simp
theorem gapX_comm {a b : List Rect} : gapX a b = gapX b a := by
  have e : gapOk a b = gapOk b a := by
    unfold gapOk
    cases a.isEmpty <;> cases b.isEmpty <;> cases regB a <;> cases regB b <;> rfl
  unfold gapX
  rw [e, gapL_comm]
theorem gap_common {a b g : List Rect} {d : Int} (ha : regB a = true) (hb : regB b = true) (h0 : 0 ≤ d) (h1 : d < 1048576) (e : growX a (d + 1) = .ok g) : decide (gapL 1048576 a b ≤ d) = decide (0 < (refL andF g b).length) := by
  rcases grow_cases ha (show 0 ≤ d + 1 by omega) (by omega) with q | ⟨g', q, rg, cg⟩
  · rw [e] at q; cases q
  rw [e] at q; cases q
  obtain ⟨f1, f2⟩ := refL_ok andF rfl (reg_y rg) (reg_y hb)
  rw [Bool.eq_iff_iff, decide_eq_true_eq, decide_eq_true_eq, gapL_le]
  have em := empty_iff f1
  have key : (∃ r ∈ a, ∃ s ∈ b, gapR r s ≤ d) ↔ ∃ x y, cell (refL andF g b) x y = true := by
    constructor
    · rintro ⟨r, hr, s, hs, h⟩
      obtain ⟨x, y, p1, p2⟩ := (Rg.gap_grow h0 (reg_box ha r hr) (reg_box hb s hs)).1 h
      refine ⟨x, y, ?_⟩
      rw [f2, cg]
      have c1 : cell (growL (d + 1) a) x y = true := List.any_eq_true.2 ⟨growR (d + 1) r, List.mem_map_of_mem hr, p1⟩
      have c2 : cell b x y = true := List.any_eq_true.2 ⟨s, hs, p2⟩
      rw [c1, c2]; rfl
    · rintro ⟨x, y, h⟩
      rw [f2, cg] at h
      unfold andF at h
      rw [Bool.and_eq_true] at h
      obtain ⟨r', hr', p1⟩ := List.any_eq_true.1 h.1
      obtain ⟨s, hs, p2⟩ := List.any_eq_true.1 h.2
      obtain ⟨r, hr, rfl⟩ := List.mem_map.1 hr'
      exact ⟨r, hr, s, hs, (Rg.gap_grow h0 (reg_box ha r hr) (reg_box hb s hs)).2 ⟨x, y, p1, p2⟩⟩
  rw [key]
  constructor
  · rintro (h | ⟨x, y, h⟩)
    · omega
    · cases q : (refL andF g b)
      · rw [q] at h; cases h
      · exact Nat.succ_pos _
  · intro h
    by_cases hn : ∃ x y, cell (refL andF g b) x y = true
    · exact .inr hn
    · have := em.2 fun x y => by
        cases q : cell (refL andF g b) x y
        · rfl
        · exact absurd ⟨x, y, q⟩ hn
      rw [List.isEmpty_iff] at this
      rw [this] at h; exact absurd h (Nat.lt_irrefl _)

/-! ### Windows of cells -/
def winK (S : Int → Int → Bool) (n k : Nat) : Bool := Rg.allN k fun i => Rg.allN n fun j => S i j
def winJ (S : Int → Int → Bool) (n k j : Nat) : Bool := winK S n k && Rg.allN j fun j => S k j
theorem winJ_zero {S : Int → Int → Bool} {n k : Nat} : winJ S n k 0 = winK S n k := Bool.and_true _
theorem winJ_succ {S : Int → Int → Bool} {n k j : Nat} : winJ S n k (j + 1) = (winJ S n k j && S k j) := (Bool.and_assoc _ _ _).symm
theorem winJ_end {S : Int → Int → Bool} {n k : Nat} : winJ S n k n = winK S n (k + 1) := rfl
theorem winK_all {S : Int → Int → Bool} {n k : Nat} : winK S n k = true ↔ ∀ i j : Nat, i < k → j < n → S i j = true := by
  unfold winK
  rw [Rg.allN_true]
  exact ⟨fun h i j hi hj => Rg.allN_true.1 (h i hi) j hj, fun h i hi => Rg.allN_true.2 fun j hj => h i j hi hj⟩
theorem winK_ero {S : Int → Int → Bool} {d : Nat} {x y : Int} : winK (fun i j => S (x - d + i) (y - d + j)) (2 * d + 1) (2 * d + 1) = eroB d S x y := by
  rw [Bool.eq_iff_iff, winK_all, Rg.eroB_true]
  constructor
  · intro h i k q1 q2 q3 q4
    have := h (i - (x - d)).toNat (k - (y - d)).toNat (by omega) (by omega)
    rw [show x - d + ((i - (x - d)).toNat : Int) = i by omega, show y - d + ((k - (y - d)).toNat : Int) = k by omega] at this
    exact this
  · intro h i j hi hj
    exact h _ _ (by omega) (by omega) (by omega) (by omega)
theorem winK_gro {S : Int → Int → Bool} {d : Nat} {x y : Int} (hb : 0 ≤ x ∧ x < 1048576 ∧ 0 ≤ y ∧ y < 1048576) : (!winK (fun i j => !S (x - d + i) (y - d + j)) (2 * d + 1) (2 * d + 1)) = true ↔ Gro d S x y := by
  have e : (!winK (fun i j => !S (x - d + i) (y - d + j)) (2 * d + 1) (2 * d + 1)) = true ↔ ¬ winK (fun i j => !S (x - d + i) (y - d + j)) (2 * d + 1) (2 * d + 1) = true := by
    cases winK (fun i j => !S (x - d + i) (y - d + j)) (2 * d + 1) (2 * d + 1) <;> simp
  rw [e, winK_all]
  constructor
  · intro h
    refine ⟨hb, ?_⟩
    obtain ⟨i, hi⟩ := Classical.not_forall.1 h
    obtain ⟨j, hj⟩ := Classical.not_forall.1 hi
    obtain ⟨p1, hj⟩ := Classical.not_forall.1 hj
    obtain ⟨p2, hj⟩ := Classical.not_forall.1 hj
    refine ⟨_, _, ?_, ?_, ?_, ?_, by simpa using hj⟩ <;> omega
  · rintro ⟨_, i, k, q1, q2, q3, q4, h⟩ hn
    have := hn (i - (x - d)).toNat (k - (y - d)).toNat (by omega) (by omega)
    rw [show x - d + ((i - (x - d)).toNat : Int) = i by omega, show y - d + ((k - (y - d)).toNat : Int) = k by omega, h] at this
    cases this

/-! ### Lists of indices -/
def gre : List Int → List Int → List Int
  | [], g => g
  | w :: ws, g => match g with
    | [] => []
    | x :: xs => if w = x then gre ws xs else gre ws (x :: xs)
theorem gre_sub : ∀ {w g : List Int}, g.Sublist w → gre w g = []
  | [], g, h => by rw [List.sublist_nil.1 h]; rfl
  | w :: ws, [], _ => rfl
  | w :: ws, x :: xs, h => by
    show (if w = x then gre ws xs else gre ws (x :: xs)) = []
    by_cases e : w = x
    · rw [if_pos e]
      subst e
      exact gre_sub (List.cons_sublist_cons.1 h)
    · rw [if_neg e]
      cases h with
      | cons _ h => exact gre_sub h
      | cons_cons _ h => exact absurd rfl e
end Go.Proofs.Ythnkmmbkdbdefaa.Bm

namespace Go.Proofs.Ythnkmmbkdbdefaa.Bm
open Go Go.RowKit
open Rg (Rect cell growL growR gapR)

def nearB (a : List Rect) (d : Int) (b : List Rect) : Bool := (gapX a b).2 && decide ((gapX a b).1 ≤ d)
def nearL (a : List Rect) (d : Int) : Nat → List (List Rect) → List Int
  | _, [] => []
  | i, b :: B => (if nearB a d b then [(i : Int)] else []) ++ nearL a d (i + 1) B
abbrev rL (P : List (Option Bool × List Rect)) : List Value := P.map fun p => rectR.o p.1 p.2
abbrev pL (P : List (Option Bool × List Rect)) : List (List Rect) := P.map fun p => p.2
theorem rL_index {x : Bool} {P : List (Option Bool × List Rect)} (i : Nat) (hi : i < P.length) : indexAddrT (.sl 22 ⟨some false, some 1⟩) (lst x (rL P)) (.int .i64 (i : Int)) = some (cptr (rectR.o (P[i]).1 (P[i]).2)) := by
  have e : (rL P)[i]? = some (rectR.o (P[i]).1 (P[i]).2) := by simp [rL, hi]
  rw [index_lst, if_pos (by omega), show ((i : Int)).toNat = i by omega, e, Option.bind_some, if_pos (by rw [Rec.o_fits, Rec.o_cells1]; rfl)]
theorem rL_len {h : Heap} {x : Bool} {P : List (Option Bool × List Rect)} : lenT .sl h (lst x (rL P)) = some (.int .i64 P.length) := by rw [len_lst]; simp [rL]
set_option maxHeartbeats 1000000 in
theorem within_spec (k : Option Bool) (x : Bool) (a : List Rect) (P : List (Option Bool × List Rect)) (d : Int) (hk : Rec.Ok k a) (hP : ∀ p ∈ P, Rec.Ok p.1 p.2 ∧ p.2.length ≤ 1000000) (ha : a.length ≤ 1000000) (hl : P.length ≤ 1000000) :
    pureCall E.P (L E) 19 [rectR.o k a, lst x (rL P), .int .i64 d] = some (iT (nearL a d 0 (pL P))) := by
  rw [pureCall_fn F19 rfl]
  simp -implicitDefEqProofs [r19, p19, prep_new, newK_nil s3, -List.map_map]
  rw [LL_for (γ := List Int) P [] (fun i c => [(7, intR.sl 0 c), (14, .int .i64 i)]) (fun _ c => [intR.row 3 c])
    (fun i rest c => (.exit 0, [(7, intR.sl 0 (c ++ nearL a d i (pL rest))), (14, undef)], [intR.row 3 (c ++ nearL a d i (pL rest))])) (fun i c => c.length ≤ i) (by omega) (Nat.le_refl _)]
  · have rr := int_reifyR (h := [intR.row 3 (nearL a d 0 (pL P))]) (b := 0) (l := nearL a d 0 (pL P)) rfl
    rw [List.nil_append]
    simp -implicitDefEqProofs [k19_3, rr]
  · simp -implicitDefEqProofs [k19_3, Rec.sl_nil]
  · rfl
  · intro nx i c hi _
    simp -implicitDefEqProofs [r19_3, k19_3, hi, trim_le, nearL]
  · intro nx i p rest c hi hv hd hw hc ih
    have ixi := rL_index (x := x) i hi
    rw [hv] at ixi
    obtain ⟨hp1, hp2⟩ := hP p (by rw [← hv]; exact List.getElem_mem hi)
    have gg := gap_spec k p.1 a p.2 hk hp1 ha hp2
    have en : nearL a d i (pL (p :: rest)) = (if nearB a d p.2 then [(i : Int)] else []) ++ nearL a d (i + 1) (pL rest) := rfl
    rw [en]
    have ap := app_num (h := [intR.row 3 c]) (b := 0) (lo := 0) (c := c) (i : Int) rfl (Nat.le_refl _) (by omega)
    unfold nearB
    generalize gapX a p.2 = g at gg ⊢
    obtain ⟨n, q⟩ := g
    simp only at gg ⊢
    cases q
    · have ih := ih c (by omega)
      simp -implicitDefEqProofs [k19_3] at ih
      simp -implicitDefEqProofs [r19_3, k19_3, hi, ixi, Rec.o_fits, ret0 m15, Rec.o_reify, gg, hw, trim_le]
      exact ih
    · by_cases hn : n ≤ d
      · have ih := ih (c ++ [(i : Int)]) (by simp; omega)
        rw [if_pos (by simp [hn]), ← List.append_assoc]
        simp -implicitDefEqProofs [k19_3, -List.append_assoc] at ih
        simp -implicitDefEqProofs [r19_3, k19_3, hi, ixi, Rec.o_fits, ret0 m15, Rec.o_reify, gg, hn, lit_num, ap, hw, trim_le, -List.append_assoc]
        exact ih
      · have ih := ih c (by omega)
        rw [if_neg (by simp [hn])]
        simp -implicitDefEqProofs [k19_3] at ih
        simp -implicitDefEqProofs [r19_3, k19_3, hi, ixi, Rec.o_fits, ret0 m15, Rec.o_reify, gg, hn, hw, trim_le]
        exact ih

/-! ### The small functions of the statements -/
theorem few_spec (k : Option Bool) (a : List Rect) (hk : Rec.Ok k a) : pureCall E.P (L E) 10 [rectR.o k a] = some (.bool (decide (a.length ≤ 24))) := by
  rw [pureCall_fn F10 rfl]
  by_cases h : a.length ≤ 24
  · have h' : (a.length : Int) ≤ 24 := by omega
    simp -implicitDefEqProofs [r10, padS, Rec.o_len hk, h, h']
  · have h' : ¬ (a.length : Int) ≤ 24 := by omega
    simp -implicitDefEqProofs [r10, padS, Rec.o_len hk, h, h']
theorem inside_spec (k m : Option Bool) (a b : List Rect) (hk : Rec.Ok k a) (hm : Rec.Ok m b) (ha : a.length ≤ 500) (hb : b.length ≤ 500) (hya : ∀ r ∈ a, r.y0 < r.y1) (hyb : ∀ r ∈ b, r.y0 < r.y1) : pureCall E.P (L E) 23 [rectR.o k a, rectR.o m b] = some (.bool (insideB a b)) := by
  have fs := form_spec k m a b 2 subF (.inr (.inr ⟨rfl, rfl⟩)) hk hm ha hb hya hyb [] 0 (Nat.zero_le _)
  simp only [List.length_nil, List.nil_append] at fs
  rw [pureCall_fn F23 rfl]
  unfold insideB
  generalize refL subF a b = F at fs ⊢
  cases F with
  | nil => simp -implicitDefEqProofs [r23, padS, fs, Rec.sl_len]
  | cons r l =>
    have h' : ¬ ((l.length : Int) + 1 = 0) := by omega
    simp -implicitDefEqProofs [r23, padS, fs, Rec.sl_len, h']
theorem box_spec (x0 y0 x1 y1 : Int) : pureCall E.P (L E) 25 [.int .i64 x0, .int .i64 y0, .int .i64 x1, .int .i64 y1] = some (lst true (rectR.vals [⟨x0, y0, x1, y1⟩])) := by
  rw [pureCall_fn F25 rfl]
  simp -implicitDefEqProofs [r25, padS, b4_all, lit_rect]
  rfl
theorem law_ints (l r : List Int) (hl : l.length ≤ 1000000) : pureCall E.P (L E) 18 [iT l, iT r] = some (.bool (decide (l = r))) := by
  rw [pureCall_fn F18 rfl]
  simp -implicitDefEqProofs [r18, padS, iT_len]
  by_cases hlen : l.length = r.length
  · simp -implicitDefEqProofs [hlen]
    rw [LL_for (γ := Unit) l () (fun i _ => [(5, .int .i64 i)]) (fun _ _ => []) (fun i rest _ => if eqL rest (r.drop i) then (.exit 0, [(5, undef)], []) else (.ret, [(4, .bool false), (5, undef)], [])) (fun _ _ => True) (by omega) trivial]
    · cases h : eqL l r
      · have : ¬ l = r := of_decide_eq_false h
        simp [this, k18_4, h]
      · have : l = r := of_decide_eq_true h
        simp [this, k18_4, eqL]
    · simp [k18_4]
    · rfl
    · intro nx i c hi _
      have hd0 : eqL [] (r.drop i) = true := by rw [List.drop_eq_nil_of_le (by omega)]; rfl
      rw [hd0]
      simp -implicitDefEqProofs [r18_4, k18_4, iT_len, hi, hlen, trim_le]
    · intro nx i v rest c hi hv hd hw _ ih
      have ih := ih () trivial
      have hi' : i < r.length := by omega
      have hrd : r.drop i = r[i] :: r.drop (i + 1) := List.drop_eq_getElem_cons hi'
      have ixl := iT_index hi
      have ixr := iT_index hi'
      rw [hv] at ixl
      rw [hrd, eqL_cons]
      simp -implicitDefEqProofs [k18_4] at ih
      by_cases he : v = r[i]
      · simp -implicitDefEqProofs [r18_4, k18_4, iT_len, hi', hlen, ixl, ixr, hw, he, trim_le]
        exact ih
      · simp -implicitDefEqProofs [r18_4, k18_4, iT_len, hi', hlen, ixl, ixr, he, trim_le]
  · have : ¬ l = r := fun e => hlen (by rw [e])
    have hlen' : ¬ ((l.length : Int) = r.length) := by omega
    simp -implicitDefEqProofs [hlen', this]
end Go.Proofs.Ythnkmmbkdbdefaa.Bm
