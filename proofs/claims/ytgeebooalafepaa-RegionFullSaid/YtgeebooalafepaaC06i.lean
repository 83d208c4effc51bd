/-
  Chapter 06: lists of rectangles cut into strips. Conditions: lists that are not too long.
-/
import Derived.Test.YtgeebooalafepaaC06h
import Derived.Test.YtgeebooalafepaaRgC
namespace Go.Proofs.Ytgeebooalafepaa.Bm
open Go Go.RowKit
open Rg (Rect Slab stripsL edgesX colC stripL sortU)

/-! ### Ends of heaps -/
theorem end0 {h : Heap} {a : AObj} : (h ++ [a])[h.length]? = some a := by simp
theorem end1 {h : Heap} {a b : AObj} : (h ++ [a, b])[h.length]? = some a := by simp
theorem end2 {h : Heap} {a b : AObj} : (h ++ [a, b])[h.length + 1]? = some b := by
  rw [List.getElem?_append_right (by omega), Nat.add_sub_cancel_left]; rfl
theorem set0 {h : Heap} {a b : AObj} : (h ++ [a]).set h.length b = h ++ [b] := by
  rw [List.set_append_right _ _ (Nat.le_refl _), Nat.sub_self]; rfl
theorem set1 {h : Heap} {a c b : AObj} : (h ++ [a, c]).set h.length b = h ++ [b, c] := by
  rw [List.set_append_right _ _ (Nat.le_refl _), Nat.sub_self]; rfl
theorem set2 {h : Heap} {a c b : AObj} : (h ++ [a, c]).set (h.length + 1) b = h ++ [a, b] := by
  rw [List.set_append_right _ _ (by omega), Nat.add_sub_cancel_left]; rfl
theorem take1 {h : Heap} {a b : AObj} : (h ++ [a, b]).take (h.length + 1) = h ++ [a] := by
  rw [List.take_append, List.take_of_length_le (by omega), Nat.add_sub_cancel_left]; rfl
theorem app_app {h : Heap} {a b : AObj} : (h ++ [a]) ++ [b] = h ++ [a, b] := by rw [List.append_assoc]; rfl

def elSl : El := ⟨61, 3, 40, .agg ⟨[.int .i64 0, .int .i64 0, .slice none 0 0]⟩, ⟨some true, some 3⟩⟩
theorem s61 : szOf E.P 61 = some 3 := by kernel_rfl
theorem a61 : aggT E.P 61 = some true := by kernel_rfl
theorem s3 : szOf E.P 3 = some 1 := by kernel_rfl
theorem b3_all {a b : Int} {c : List (Int × Int)} : buildT (Bl.fs ⟨[.int .i64 0, .int .i64 0, .slice none 0 0]⟩ ⟨[(0, 1), (1, 1), (2, 1)]⟩) #[(0, .int .i64 a), (1, .int .i64 b), (2, colV c)] = some (.agg ⟨[.int .i64 a, .int .i64 b, colV c]⟩) := rfl
theorem lit_slab (h : Heap) (a b : Int) (c : List (Int × Int)) : buildSliceT (some ⟨61, 3, 40, .agg ⟨[.int .i64 0, .int .i64 0, .slice none 0 0]⟩, ⟨some true, some 3⟩⟩) false h 1 #[(0, .agg ⟨[.int .i64 a, .int .i64 b, colV c]⟩)] = some (lst true [.agg ⟨[.int .i64 a, .int .i64 b, colV c]⟩], h) :=
  (build_lit' (n := 1) (l := [(0, .agg ⟨[.int .i64 a, .int .i64 b, colV c]⟩)]) rfl rfl (by decide) (by decide) (by decide)).trans rfl
theorem app_slab {h : Heap} {b lo : Nat} {c : List Slab} (s : Slab) (hob : h[b]? = some (slabR.row 61 c)) (hlo : lo ≤ b) (hc : c.length ≤ 1000000) :
    appendT (some ⟨61, 3, 40, .agg ⟨[.int .i64 0, .int .i64 0, .slice none 0 0]⟩, ⟨some true, some 3⟩⟩) h lo false (slabR.sl b c) (lst true [.agg ⟨[.int .i64 s.x0, .int .i64 s.x1, colV s.col]⟩]) = some (slabR.sl b (c ++ [s]), h.set b (slabR.row 61 (c ++ [s]))) :=
  Rec.app (R := slabR) (m := [s]) rfl hob (Rec.cells_tree (R := slabR) rfl [s]) hlo (by show (c.length + 1) * 40 ≤ 2 ^ 47; omega)
theorem app_two' {h : Heap} {b lo : Nat} {c : List Int} (u v : Int) (hob : h[b]? = some (intR.row 3 c)) (hlo : lo ≤ b) (hc : c.length ≤ 1000000) :
    appendT (some ⟨3, 1, 8, .int .i64 0, ⟨some false, some 1⟩⟩) h lo false (intR.sl b c) (lst true [.int .i64 u, .int .i64 v]) = some (intR.sl b (c ++ [u, v]), h.set b (intR.row 3 (c ++ [u, v]))) :=
  Rec.app (R := intR) (m := [u, v]) rfl hob (cells_lst (by rfl)) hlo (by show (c.length + 2) * 8 ≤ 2 ^ 47; omega)

def xsL (l : List Rect) : List Int := l.flatMap fun r => [r.x0, r.x1]
theorem xsL_cons (r : Rect) (l : List Rect) : xsL (r :: l) = [r.x0, r.x1] ++ xsL l := rfl
theorem xsL_len (l : List Rect) : (xsL l).length = 2 * l.length := by
  induction l with
  | nil => rfl
  | cons r l ih =>
    have e2 : (r :: l).length = l.length + 1 := rfl
    have e3 : [r.x0, r.x1].length = 2 := rfl
    rw [xsL_cons, List.length_append, ih, e2, e3]; omega
theorem slab_sl_len {b : Nat} {c d : List Slab} (h : c.length = d.length) : slabR.sl b c = slabR.sl b d := by unfold Rec.sl; rw [h]

theorem strips_spec (x : Bool) (P : List (Option Bool × List Rect)) (hok : ∀ p ∈ P, Rec.Ok p.1 p.2) (hP : P.length ≤ 1000) (ht : tot P ≤ 1000) (st : settled depth (lst x (P.map fun p => rectR.o p.1 p.2)) = true)
    (h : Heap) (lo : Nat) (hlo : lo ≤ h.length) (hb : ∀ n, h.length ≤ n → h.all (belowO n) = true) :
    ∃ q, L E 27 [lst x (P.map fun p => rectR.o p.1 p.2)] h lo = some (slabR.sl (h.length + 1) (stripsL (allP P)), h ++ [intR.row 3 q, slabR.row 61 (stripsL (allP P))]) := by
  have hcat := rects_concat x P hok hP (by omega)
  have hcl : (allP P).length ≤ 1000 := by rw [tot_all]; exact ht
  have hk : Rec.Ok (if tot P = 0 then none else some false) (allP P) := by
    intro hk
    split at hk
    · rename_i h0
      exact List.eq_nil_of_length_eq_zero (by rw [tot_all, h0])
    · cases hk
  generalize (if tot P = 0 then none else some false) = k at hcat hk
  generalize allP P = ll at hcat hk hcl ⊢
  obtain ⟨r, co, hr⟩ := compInts (h := h ++ [intR.row 3 (sortI (xsL ll))]) (b := h.length) (lo := lo) (d := sortI (xsL ll)) end0 hlo (by rw [sortI_len, xsL_len]; omega)
  refine ⟨compI (sortI (xsL ll)) ++ r, ?_⟩
  rw [L_fn F27 rfl]
  simp -implicitDefEqProofs [r27, p27, prep_new, newK_nil s3, ret1 m43, hcat, st, Rec.o_len hk]
  rw [LL_for (γ := List Int) ll [] (fun i c => [(4, intR.sl h.length c), (13, .int .i64 i)]) (fun _ c => h ++ [intR.row 3 c])
    (fun _ rest c => (.exit 0, [(4, intR.sl h.length (c ++ xsL rest)), (13, undef)], h ++ [intR.row 3 (c ++ xsL rest)])) (fun i c => c.length = 2 * i) (by omega) rfl]
  · rw [List.nil_append]
    have hel := xsL_len ll
    have so := sortInts (h := h ++ [intR.row 3 (xsL ll)]) (b := h.length) (lo := lo) (d := xsL ll) end0 hlo (by omega)
    have hsl : (sortI (xsL ll)).length = (xsL ll).length := sortI_len _
    rw [Rg.comp_sort] at co hr ⊢
    have e1 : intR.sl h.length (sortI (xsL ll)) = intR.sl h.length (xsL ll) := by unfold Rec.sl; rw [hsl]
    rw [e1, set0] at co
    rw [set0] at so
    simp -implicitDefEqProofs [k27_4, ret2 (E := E) (f := 44) rfl, ret2 (E := E) (f := 45) rfl, so, co, prep_new, newK_nil s61]
    rw [hsl] at hr ⊢
    have exs : stripsL ll = stripL (colC ll) (sortU (xsL ll)) := rfl
    rw [exs]
    generalize hys : sortU (xsL ll) = ys at hr ⊢
    generalize (xsL ll).length = n at hr hel ⊢
    have hyn : ys.length ≤ 40000 := by rw [List.length_append] at hr; omega
    clear hcat co so
    rw [LL_rec (α := Nat × List Slab) (1, []) (fun c => [(7, slabR.sl (h.length + 1) c.2), (8, .int .i64 c.1)]) (fun c => h ++ [intR.row 3 (ys ++ r), slabR.row 61 c.2])
      (fun c => (.exit 2, [(7, slabR.sl (h.length + 1) (c.2 ++ stripL (colC ll) (ys.drop (c.1 - 1)))), (8, undef)], h ++ [intR.row 3 (ys ++ r), slabR.row 61 (c.2 ++ stripL (colC ll) (ys.drop (c.1 - 1)))])) (fun c => 1 ≤ c.1 ∧ c.1 ≤ ys.length + 1 ∧ c.2.length ≤ c.1) (fun c => ys.length + 1 - c.1)]
    · simp -implicitDefEqProofs [k27_12]
    · exact ⟨Nat.le_refl _, by simp, by simp⟩
    · simp -implicitDefEqProofs [k27_12, Rec.sl_nil]
    · rfl
    · intro nx c hc ih
      obtain ⟨i, o⟩ := c
      obtain ⟨h1, h2, h3⟩ := hc
      simp only at h1 h2 h3
      by_cases hi : i < ys.length
      · obtain ⟨m, rfl⟩ : ∃ m, i = m + 1 := ⟨i - 1, by omega⟩
        have hm0 : m < ys.length := by omega
        have hd : ys.drop (m + 1 - 1) = ys[m] :: ys[m + 1] :: ys.drop (m + 2) := by
          rw [Nat.add_sub_cancel, List.drop_eq_getElem_cons hm0, List.drop_eq_getElem_cons hi]
        have hd2 : ys.drop (m + 1) = ys[m + 1] :: ys.drop (m + 2) := List.drop_eq_getElem_cons hi
        have ek : stripL (colC ll) (ys[m] :: ys[m + 1] :: ys.drop (m + 2)) = [⟨ys[m], ys[m + 1], colC ll ys[m]⟩] ++ stripL (colC ll) (ys[m + 1] :: ys.drop (m + 2)) := rfl
        have w1 : IntKind.i64.wrap (m : Int) = m := wrap64 (by omega) (by omega)
        have w2 : IntKind.i64.wrap ((m : Int) + 1 + 1) = (m : Int) + 2 := (wrap64 (by omega) (by omega)).trans (by omega)
        have hlt : (m : Int) + 1 < (ys.length : Int) := by omega
        have px := pre_index (t := 3) (g := some false) (b := h.length) (n := n) (k := .i64) hm0
        have px1 := pre_index (t := 3) (g := some false) (b := h.length) (n := n) (k := .i64) hi
        have pl := pre_load (h := h ++ [intR.row 3 (ys ++ r), slabR.row 61 o]) (b := h.length) (n := n) (sz := some 1) end1 hr hm0
        have pl1 := pre_load (h := h ++ [intR.row 3 (ys ++ r), slabR.row 61 o]) (b := h.length) (n := n) (sz := some 1) end1 hr hi
        have so1 : settled depth (rectR.o k ll) = true := Rec.o_set
        have so2 : ∀ z, settled depth (.int .i64 z) = true := fun _ => rfl
        have cs := column_spec k ll ys[m] hk hcl
        have ap := app_slab (h := h ++ [intR.row 3 (ys ++ r), slabR.row 61 o]) (b := h.length + 1) (lo := lo) (c := o) ⟨ys[m], ys[m + 1], colC ll ys[m]⟩ end2 (by omega) (by omega)
        rw [set2] at ap
        have ih := ih (m + 2, o ++ [⟨ys[m], ys[m + 1], colC ll ys[m]⟩]) (by show ys.length + 1 - (m + 2) < ys.length + 1 - (m + 1); omega) ⟨by show 1 ≤ m + 2; omega, by show m + 2 ≤ ys.length + 1; omega, by show (o ++ [_]).length ≤ m + 2; simp; omega⟩
        rw [hd, ek, ← hd2, ← List.append_assoc]
        push_cast at px1
        simp -implicitDefEqProofs [k27_12, -List.append_assoc] at ih
        simp -implicitDefEqProofs [r27_12, k27_12, hlt, pre_len, w1, w2, px, pl, px1, pl1, ret1 m46, so1, so2, cs, b3_all, lit_slab, ap, trim_le, -List.append_assoc]
        exact ih
      · have e : stripL (colC ll) (ys.drop (i - 1)) = [] := by
          have hl : (ys.drop (i - 1)).length ≤ 1 := by rw [List.length_drop]; omega
          match hd : ys.drop (i - 1), hl with
          | [], _ => rfl
          | [z], _ => rfl
        rw [e, List.append_nil]
        simp -implicitDefEqProofs [r27_12, k27_12, hi, pre_len, trim_le]
  · simp -implicitDefEqProofs [k27_4, Rec.sl_nil]
  · rfl
  · intro nx i c hi _
    simp -implicitDefEqProofs [r27_4, k27_4, hi, trim_le, xsL]
  · intro nx i s rest c hi hv hd hw hc ih
    have ixi := Rec.o_index (R := rectR) (t := 32) (kk := .i64) (s := 4) rfl hk hi
    rw [hv] at ixi
    have ap := fun o => app_two' (h := h ++ [intR.row 3 c, o]) (b := h.length) (lo := lo) (c := c) s.x0 s.x1 end1 hlo (by omega)
    simp only [set1] at ap
    have ih := ih (c ++ [s.x0, s.x1]) (by simp; omega)
    have hlo1 : lo ≤ h.length + 1 := by omega
    have hb1 := hb (h.length + 1) (by omega)
    rw [xsL_cons, ← List.append_assoc]
    simp -implicitDefEqProofs [k27_4, -List.append_assoc] at ih
    simp -implicitDefEqProofs [r27_4, k27_4, hi, ixi, rect_val, lit_two, ap, hw, trim_cut, Rec.sl_bel, Rec.row_bel, Rec.o_bel, hlo1, hb1, app_app, take1, -List.append_assoc, -List.all_eq_true]
    exact ih
end Go.Proofs.Ytgeebooalafepaa.Bm
namespace Go.Proofs.Ytgeebooalafepaa.Bm
open Go Go.RowKit
open Rg (Rect Slab runs runsF outT emit)

/-! ### Runs of equal strips, plain -/
def cntR (c : List (Int × Int)) : List Slab → Nat
  | [] => 0
  | u :: U => if u.col = c then cntR c U + 1 else 0
theorem cntR_le (c : List (Int × Int)) : ∀ (U : List Slab), cntR c U ≤ U.length
  | [] => Nat.le_refl _
  | u :: U => by
    have := cntR_le c U
    unfold cntR
    split
    · exact Nat.succ_le_succ this
    · exact Nat.zero_le _
def lastX (x : Int) (c : List (Int × Int)) : List Slab → Int
  | [] => x
  | u :: U => if u.col = c then lastX u.x1 c U else x
theorem lastX_get (c : List (Int × Int)) : ∀ (U : List Slab) (s : Slab) (h : cntR c U < (s :: U).length), lastX s.x1 c U = ((s :: U)[cntR c U]).x1
  | [], s, _ => rfl
  | u :: U, s, h => by
    by_cases e : u.col = c
    · have e1 : cntR c (u :: U) = cntR c U + 1 := by rw [cntR, if_pos e]
      have e2 : lastX s.x1 c (u :: U) = lastX u.x1 c U := by rw [lastX, if_pos e]
      rw [e2, lastX_get c U u (by have := cntR_le c U; simp; omega)]
      simp only [e1, List.getElem_cons_succ]
    · have e1 : cntR c (u :: U) = 0 := by rw [cntR, if_neg e]
      have e2 : lastX s.x1 c (u :: U) = s.x1 := by rw [lastX, if_neg e]
      rw [e2]
      simp only [e1, List.getElem_cons_zero]
theorem runs_run : ∀ (U : List Slab) (s : Slab), outT (runs s U) = emit ⟨s.x0, lastX s.x1 s.col U, s.col⟩ ++ outT (runsF (U.drop (cntR s.col U)))
  | [], s => by
    rw [Rg.runs_end]
    show emit s = emit s ++ []
    rw [List.append_nil]
  | u :: U, s => by
    by_cases e : u.col = s.col
    · rw [Rg.runs_step e, runs_run U ⟨s.x0, u.x1, s.col⟩]
      rw [cntR, lastX, if_pos e, if_pos e]
      rfl
    · rw [Rg.runs_stop e, cntR, lastX, if_neg e, if_neg e]
      rfl
theorem runsF_drop {T : List Slab} {i : Nat} (hi : i < T.length) : ∃ h : i + cntR T[i].col (T.drop (i + 1)) < T.length,
    outT (runsF (T.drop i)) = emit ⟨T[i].x0, (T[i + cntR T[i].col (T.drop (i + 1))]).x1, T[i].col⟩ ++ outT (runsF (T.drop (i + 1 + cntR T[i].col (T.drop (i + 1))))) := by
  have hc := cntR_le T[i].col (T.drop (i + 1))
  rw [List.length_drop] at hc
  have h : i + cntR T[i].col (T.drop (i + 1)) < T.length := by omega
  refine ⟨h, ?_⟩
  rw [List.drop_eq_getElem_cons hi]
  show outT (runs T[i] (T.drop (i + 1))) = _
  rw [runs_run, lastX_get _ _ _ (by simp; omega), List.drop_drop]
  have e : (T[i] :: T.drop (i + 1))[cntR T[i].col (T.drop (i + 1))]'(by simp; omega) = T[i + cntR T[i].col (T.drop (i + 1))] := by
    have hd := List.drop_eq_getElem_cons hi
    have : ∀ (j : Nat) (hj : j < (T[i] :: T.drop (i + 1)).length) (hj' : i + j < T.length), (T[i] :: T.drop (i + 1))[j] = T[i + j] := by
      intro j hj hj'
      have : (T.drop i)[j]'(by rw [hd]; exact hj) = T[i + j] := List.getElem_drop ..
      rw [← this]
      congr 1
      exact hd.symm
    exact this _ _ _
  rw [e]
theorem drop_cnt {c : List (Int × Int)} {T : List Slab} {k : Nat} (hk : k < T.length) : cntR c (T.drop k) = if (T[k]).col = c then cntR c (T.drop (k + 1)) + 1 else 0 := by
  rw [List.drop_eq_getElem_cons hk, cntR]
theorem emit_cons (x0 x1 : Int) (s : Int × Int) (c : List (Int × Int)) : emit ⟨x0, x1, s :: c⟩ = [⟨x0, s.1, x1, s.2⟩] ++ emit ⟨x0, x1, c⟩ := rfl

theorem s32 : szOf E.P 32 = some 4 := by kernel_rfl
theorem a32 : aggT E.P 32 = some true := by kernel_rfl
theorem lit_rect (h : Heap) (a b c d : Int) : buildSliceT (some ⟨32, 4, 32, .agg ⟨[.int .i64 0, .int .i64 0, .int .i64 0, .int .i64 0]⟩, ⟨some true, some 4⟩⟩) false h 1 #[(0, .agg ⟨[.int .i64 a, .int .i64 b, .int .i64 c, .int .i64 d]⟩)] = some (lst true [.agg ⟨[.int .i64 a, .int .i64 b, .int .i64 c, .int .i64 d]⟩], h) :=
  (build_lit' (n := 1) (l := [(0, .agg ⟨[.int .i64 a, .int .i64 b, .int .i64 c, .int .i64 d]⟩)]) rfl rfl (by decide) (by decide) (by decide)).trans rfl
theorem app_rect {h : Heap} {b lo : Nat} {c : List Rect} (r : Rect) (hob : h[b]? = some (rectR.row 32 c)) (hlo : lo ≤ b) (hc : c.length ≤ 1000000000) :
    appendT (some ⟨32, 4, 32, .agg ⟨[.int .i64 0, .int .i64 0, .int .i64 0, .int .i64 0]⟩, ⟨some true, some 4⟩⟩) h lo false (rectR.sl b c) (lst true [.agg ⟨[.int .i64 r.x0, .int .i64 r.y0, .int .i64 r.x1, .int .i64 r.y1]⟩]) = some (rectR.sl b (c ++ [r]), h.set b (rectR.row 32 (c ++ [r]))) :=
  Rec.app (R := rectR) (m := [r]) rfl hob (Rec.cells_tree (R := rectR) rfl [r]) hlo (by show (c.length + 1) * 32 ≤ 2 ^ 47; omega)

theorem write_spec (T : List Slab) (hT : T.length ≤ 10000) (hc : ∀ s ∈ T, s.col.length ≤ 10000) : pureCall E.P (L E) 26 [lst false (slabR.vals T)] = some (lst false (rectR.vals (outT (runsF T)))) := by
  have ix : ∀ (i : Nat) (hi : i < T.length), indexAddrT (.sl 61 ⟨some true, some 3⟩) (lst false (slabR.vals T)) (.int .i64 (i : Int)) = some (cptr (slabR.val T[i])) := fun i hi => Rec.index_tree rfl hi
  have eq := fun (a b : List (Int × Int)) (ha : a.length ≤ 1000000) => equal_spans false false a b ha
  rw [pureCall_fn F26 rfl]
  simp -implicitDefEqProofs [r26, p26, prep_new, newK_nil s32]
  rw [LL_rec (α := Nat × List Rect) (0, []) (fun c => [(3, rectR.sl 0 c.2), (4, .int .i64 c.1)]) (fun c => [rectR.row 32 c.2])
      (fun c => (.exit 0, [(3, rectR.sl 0 (c.2 ++ outT (runsF (T.drop c.1)))), (4, undef)], [rectR.row 32 (c.2 ++ outT (runsF (T.drop c.1)))])) (fun c => c.1 ≤ T.length ∧ c.2.length ≤ c.1 * 10000) (fun c => T.length - c.1)]
  · have rr := Rec.reifyR_row (R := rectR) (P := E.P) (h := [rectR.row 32 (outT (runsF T))]) (b := 0) (t := 32) (l := outT (runsF T)) rfl s32 a32
    simp -implicitDefEqProofs [k26_3, rr]
  · exact ⟨Nat.zero_le _, Nat.zero_le _⟩
  · simp -implicitDefEqProofs [k26_3, Rec.sl_nil]
  · rfl
  · intro nx c hI ih
    obtain ⟨i, o⟩ := c
    obtain ⟨h1, h2⟩ := hI
    simp only at h1 h2
    by_cases hi : i < T.length
    · obtain ⟨hK, hrun⟩ := runsF_drop hi
      have hci := hc _ (List.getElem_mem hi)
      have hcs := fun (k : Nat) (hk : k < T.length) => hc _ (List.getElem_mem hk)
      have w1 : IntKind.i64.wrap ((i : Int) + 1) = (i : Int) + 1 := wrap64 (by omega) (by omega)
      have hii : (i : Int) < (T.length : Int) := by omega
      obtain ⟨m, hm⟩ : ∃ m, m = i + cntR T[i].col (T.drop (i + 1)) := ⟨_, rfl⟩
      have hm1 : i + 1 + cntR T[i].col (T.drop (i + 1)) = m + 1 := by omega
      have hK' : m < T.length := by omega
      simp only [hm1, ← hm] at hrun
      rw [hrun]
      generalize hcol : T[i].col = ci at *
      generalize hx0 : T[i].x0 = x0 at *
      generalize hx1 : T[m].x1 = x1 at *
      have hix := ix i hi
      rw [slab_val, hcol, hx0] at hix
      have him := ix m hK'
      rw [slab_val, hx1] at him
      have eR := fun (o' : List Rect) (hl : o'.length ≤ (m + 1) * 10000) => ih (m + 1, o') (by show T.length - (m + 1) < T.length - i; omega) ⟨by show m + 1 ≤ T.length; omega, hl⟩
      simp -implicitDefEqProofs [r26_3, k26_3, hi, Rec.vals_len, w1]
      rw [LL_rec (α := Nat) (i + 1) (fun k => [(5, .int .i64 (k : Int))]) (fun _ => [rectR.row 32 o]) (fun _ => (.exit 2, [(5, .int .i64 ((m + 1 : Nat) : Int))], [rectR.row 32 o]))
        (fun k => i + 1 ≤ k ∧ k ≤ T.length ∧ k + cntR ci (T.drop k) = m + 1) (fun k => T.length - k)]
      · have wm : IntKind.i64.wrap ((m : Int) + 1 - 1) = (m : Int) := (wrap64 (by omega) (by omega)).trans (by omega)
        have wm' : IntKind.i64.wrap (m : Int) = (m : Int) := wrap64 (by omega) (by omega)
        have ixc : ∀ (j : Nat) (hj : j < ci.length), indexAddrT (.sl 59 ⟨some true, some 2⟩) (lst false (spanR.vals ci)) (.int .i64 (j : Int)) = some (cptr (spanR.val ci[j])) := fun j hj => Rec.index_tree rfl hj
        simp -implicitDefEqProofs [k26_5, hix, colV, Rec.vals_len]
        rw [LL_for (γ := List Rect) ci o (fun j o' => [(3, rectR.sl 0 o'), (39, .int .i64 j)]) (fun _ o' => [rectR.row 32 o'])
          (fun _ rest o' => (.exit 4, [(3, rectR.sl 0 (o' ++ emit ⟨x0, x1, rest⟩)), (39, undef)], [rectR.row 32 (o' ++ emit ⟨x0, x1, rest⟩)])) (fun j o' => o'.length = o.length + j) (by omega) rfl]
        · have hel : (emit ⟨x0, x1, ci⟩).length = ci.length := List.length_map _
          have eR := eR (o ++ emit ⟨x0, x1, ci⟩) (by rw [List.length_append, hel]; omega)
          simp -implicitDefEqProofs [k26_3] at eR
          simp -implicitDefEqProofs [k26_8, trim_le]
          exact eR
        · simp -implicitDefEqProofs [k26_8]
        · rfl
        · intro nx j o' hj _
          have : emit ⟨x0, x1, []⟩ = [] := rfl
          simp -implicitDefEqProofs [r26_8, k26_8, hj, trim_le, this]
        · intro nx j s rest o' hj hv hd hw ho ih
          have ixj := ixc j hj
          rw [hv, span_val] at ixj
          have ap := fun q => app_rect (h := [rectR.row 32 o', q]) (b := 0) (lo := 0) (c := o') ⟨x0, s.1, x1, s.2⟩ rfl (Nat.le_refl _) (by omega)
          have ih := ih (o' ++ [⟨x0, s.1, x1, s.2⟩]) (by simp; omega)
          rw [emit_cons, ← List.append_assoc]
          simp -implicitDefEqProofs [k26_8, -List.append_assoc] at ih
          simp -implicitDefEqProofs [r26_8, k26_8, hj, ixj, hix, him, wm', b4_all, lit_rect, ap, hw, trim_cut, Rec.sl_bel, Rec.row_bel, -List.append_assoc]
          exact ih
      · exact ⟨Nat.le_refl _, by omega, hm1⟩
      · simp -implicitDefEqProofs [k26_5]
      · rfl
      · intro nx k hI ih
        obtain ⟨h3, h4, h5⟩ := hI
        by_cases hk : k < T.length
        · have w2 : IntKind.i64.wrap ((k : Int) + 1) = (k : Int) + 1 := wrap64 (by omega) (by omega)
          have hckk := hcs k hk
          have hixk := ix k hk
          rw [slab_val] at hixk
          have eqk := eq T[k].col ci (by omega)
          rw [drop_cnt hk] at h5
          by_cases he : T[k].col = ci
          · rw [if_pos he] at h5
            rw [he] at eqk
            have ih := ih (k + 1) (by omega) ⟨by omega, by omega, by omega⟩
            simp -implicitDefEqProofs [k26_5] at ih
            simp -implicitDefEqProofs [r26_5, k26_5, hk, Rec.vals_len, w2, hix, hixk, colV, ret0 m42, eqk, he, trim_le]
            exact ih
          · rw [if_neg he] at h5
            have hR : ((m + 1 : Nat) : Int) = (k : Int) := by omega
            rw [hR]
            simp -implicitDefEqProofs [r26_5, k26_5, hk, Rec.vals_len, hix, hixk, colV, ret0 m42, eqk, he, trim_le]
        · have hR : ((m + 1 : Nat) : Int) = (k : Int) := by
            have := cntR_le ci (T.drop k)
            rw [List.length_drop] at this
            omega
          rw [hR]
          simp -implicitDefEqProofs [r26_5, k26_5, hk, Rec.vals_len, trim_le]
    · have e : T.drop i = [] := List.drop_of_length_le (by omega)
      have e1 : outT (runsF (T.drop i)) = [] := by rw [e]; rfl
      rw [e1, List.append_nil]
      simp -implicitDefEqProofs [r26_3, k26_3, hi, Rec.vals_len, trim_le]
end Go.Proofs.Ytgeebooalafepaa.Bm
