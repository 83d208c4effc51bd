/-
 Chapter 07: the boundary of a region, walked. Conditions: lists that are not too long.
-/
import Derived.Test.YtadnganaeigchaaQT24
import Derived.Test.YtadnganaeigchaaQT26
import Derived.Test.YtadnganaeigchaaQT15
import Derived.Test.YtadnganaeigchaaQT17
namespace Go.Proofs.Ytadnganaeigchaa.Bm
open Go Go.RowKit
open Rg (Rect Pt sortU inY ysB upL)
def inRy (y : Int) (r : Rect) : Bool := decide (r.y0 ≤ y) && decide (y < r.y1)
theorem inY_any (l : List Rect) (y : Int) : inY l y = l.any (inRy y) := rfl
theorem in1_spec (r : Rect) (y : Int) : pureCall E.P (L E) 68 [rectR.val r, cptr (.int .i64 y)] = some (.bool (inRy y r)) := by
 rw [pureCall_fn F68 rfl]
 unfold inRy
 by_cases h1 : r.y0 ≤ y
 ·simp -implicitDefEqProofs [r68, p68, rect_val, h1]
 ·simp -implicitDefEqProofs [r68, p68, rect_val, h1]
theorem indexI_spec (k : Option Bool) (l : List Rect) (y : Int) (hk : Rec.Ok k l) (hl : l.length ≤ 1000000) : L E 48 [rectR.o k l, .func (.func 68) ⟨[]⟩ ⟨[cptr (.int .i64 y)]⟩] [] 0 = some (.int .i64 (firstP (inRy y) l 0), []) := by
 rw [L_fn F48 rfl]
 simp -implicitDefEqProofs [r48, padS, Rec.o_len hk]
 rw [LL_for (γ := Unit) l () (fun i _ => [(8, .int .i64 i)]) (fun _ _ => []) (fun i rest _ => if rest.any (inRy y) then (.ret, [(4, .int .i64 (firstP (inRy y) rest i)), (8, undef)], []) else (.exit 0, [(8, undef)], [])) (fun _ _ => True) (by omega) trivial]
 ·cases h : l.any (inRy y)
  ·have hm := firstP_none (inRy y) l 0 h
   simp -implicitDefEqProofs [k48_2, hm]
  ·simp -implicitDefEqProofs [k48_2, h]
 ·simp -implicitDefEqProofs [k48_2]
 ·rfl
 ·intro nx i c hi _
  simp -implicitDefEqProofs [r48_2, k48_2, hi, Rec.o_len hk, trim_le]
 ·intro nx i r rest c hi hv hd hw _ ih
  have ih := ih () trivial
  have ixi := Rec.o_index (R := rectR) (t := 39) (kk := .i64) (s := 4) rfl hk hi
  rw [hv] at ixi
  have h1 := in1_spec r y
  rw [rect_val] at h1
  have e : (r :: rest).any (inRy y) = (inRy y r || rest.any (inRy y)) := rfl
  have e2 : firstP (inRy y) (r :: rest) i = if inRy y r then (i : Int) else firstP (inRy y) rest (i + 1) := rfl
  rw [e, e2]
  simp -implicitDefEqProofs [k48_2] at ih
  cases h : inRy y r
  ·simp -implicitDefEqProofs [r48_2, k48_2, hi, ixi, Rec.o_len hk, rect_val, ret0 m68, h1, h, hw, trim_le]
   exact ih
  ·simp -implicitDefEqProofs [r48_2, k48_2, hi, ixi, Rec.o_len hk, rect_val, ret0 m68, h1, h, trim_le]
theorem containsI_spec (k : Option Bool) (l : List Rect) (y : Int) (hk : Rec.Ok k l) (hl : l.length ≤ 1000000) : pureCall E.P (L E) 67 [rectR.o k l, .func (.func 68) ⟨[]⟩ ⟨[cptr (.int .i64 y)]⟩] = some (.bool (inY l y)) := by
 have key := indexI_spec k l y hk hl
 have hn := firstP_nonneg (inRy y) l 0
 rw [← inY_any] at hn
 rw [pureCall_fn F67 rfl]
 simp -implicitDefEqProofs [r67, padS, ret2 m48, key, hn]
theorem in_spec (k : Option Bool) (l : List Rect) (y : Int) (hk : Rec.Ok k l) (hl : l.length ≤ 1000000) : pureCall E.P (L E) 66 [rectR.o k l, .int .i64 y] = some (.bool (inY l y)) := by
 have h1 := containsI_spec k l y hk hl
 have a3 : aggT E.P 3 = some false := by kernel_rfl
 have wp : ∀ v, wrapP (some false) [v] = some (cptr v) := fun _ => rfl
 rw [pureCall_fn F66 rfl]
 simp -implicitDefEqProofs [r66, padS, ret0 m67, Rec.o_reify, h1, s3, a3, wp]
def yL (l : List Rect) : List Int := l.flatMap fun r => [r.y0, r.y1]
theorem yL_cons (r : Rect) (l : List Rect) : yL (r :: l) = [r.y0, r.y1] ++ yL l := rfl
theorem yL_len (l : List Rect) : (yL l).length = 2 * l.length := by
 induction l with
 | nil => rfl
 | cons r l ih =>
  have e2 : (r :: l).length = l.length + 1 := rfl
  have e3 : [r.y0, r.y1].length = 2 := rfl
  rw [yL_cons, List.length_append, ih, e2, e3]; omega
theorem flat_ints (l : List Int) : intR.flat l = intE.vals l := by
 induction l with
 | nil => rfl
 | cons z l ih => exact congrArg (Value.int .i64 z :: ·) ih
theorem frz_pre {h : Heap} {b n lo : Nat} {e r : List Int} (hob : h[b]? = some (intR.row 3 (e ++ r))) (hn : (e ++ r).length = n) (hlo : lo ≤ b) :
  ∃ h', freezeV E.P depth lo h (preS b n e) = some (lst false (intE.vals e), h') ∧ h' = (if e.length = 0 then h else h.set b .dead) := by
 subst hn
 have key := Enc.frz_part (P := E.P) (O := intE) (h := h) (b := b) (n := e.length) (lo := lo) (t := 3) (l := e ++ r) (hob.trans (congrArg some (show intR.row 3 (e ++ r) = intE.row 3 (e ++ r) by unfold Rec.row Enc.row; congr 1; exact flat_ints _))) (by rw [List.length_append]; omega) s3 (by kernel_rfl) hlo
 rw [List.take_left] at key
 exact ⟨_, key, rfl⟩
theorem zS : szOf E.P 48 = some 4 := by kernel_rfl
theorem bPt {a b : Int} : buildT (Bl.fs ⟨[.int .i64 0, .int .i64 0]⟩ ⟨[(0, 1), (1, 1)]⟩) #[(0, .int .i64 a), (1, .int .i64 b)] = some (.agg ⟨[.int .i64 a, .int .i64 b]⟩) := rfl
theorem bSd {a b c d : Int} : buildT (Bl.fs ⟨[.int .i64 0, .int .i64 0, .int .i64 0, .int .i64 0]⟩ ⟨[(0, 2), (2, 2)]⟩) #[(0, .agg ⟨[.int .i64 a, .int .i64 b]⟩), (1, .agg ⟨[.int .i64 c, .int .i64 d]⟩)] = some (.agg ⟨[.int .i64 a, .int .i64 b, .int .i64 c, .int .i64 d]⟩) := rfl
theorem lit_side (h : Heap) (a b c d : Int) : buildSliceT (some ⟨48, 4, 32, .agg ⟨[.int .i64 0, .int .i64 0, .int .i64 0, .int .i64 0]⟩, ⟨some true, some 4⟩⟩) false h 1 #[(0, .agg ⟨[.int .i64 a, .int .i64 b, .int .i64 c, .int .i64 d]⟩)] = some (lst true [.agg ⟨[.int .i64 a, .int .i64 b, .int .i64 c, .int .i64 d]⟩], h) :=
 (build_lit' (n := 1) (l := [(0, .agg ⟨[.int .i64 a, .int .i64 b, .int .i64 c, .int .i64 d]⟩)]) rfl rfl (by decide) (by decide) (by decide)).trans rfl
theorem app_side {h : Heap} {b lo : Nat} {c : List (Pt × Pt)} (s : Pt × Pt) (hob : h[b]? = some (sideR.row 48 c)) (hlo : lo ≤ b) (hc : c.length ≤ 1000000) :
  appendT (some ⟨48, 4, 32, .agg ⟨[.int .i64 0, .int .i64 0, .int .i64 0, .int .i64 0]⟩, ⟨some true, some 4⟩⟩) h lo false (sideR.sl b c) (lst true [.agg ⟨[.int .i64 s.1.1, .int .i64 s.1.2, .int .i64 s.2.1, .int .i64 s.2.2]⟩]) = some (sideR.sl b (c ++ [s]), h.set b (sideR.row 48 (c ++ [s]))) :=
 Rec.app (R := sideR) (m := [s]) rfl hob (Rec.cells_tree (R := sideR) rfl [s]) hlo (by show (c.length + 1) * 32 ≤ 2 ^ 47; omega)
theorem upL_end {x : Int} {A B : List Rect} {ys : List Int} {i : Nat} (h : ¬ i + 1 < ys.length) : upL x A B (ys.drop i) = [] := by
 have hl : (ys.drop i).length ≤ 1 := by rw [List.length_drop]; omega
 match ys.drop i, hl with
 | [], _ => rfl
 | [_], _ => rfl
theorem upright_spec (x : Int) (ka kb : Option Bool) (A B : List Rect) (hA : Rec.Ok ka A) (hB : Rec.Ok kb B) (hl : A.length + B.length ≤ 1000) :
  pureCall E.P (L E) 41 [.int .i64 x, rectR.o ka A, rectR.o kb B] = some (lst false (sideR.vals (upL x A B (ysB A B)))) := by
 have hcat := rects_concat true [(ka, A), (kb, B)] (by intro p hp; rcases List.mem_cons.1 hp with e | e; · subst e; exact hA
                                                       ·rw [List.mem_singleton] at e; subst e; exact hB) (by show 2 ≤ 1000; decide) (by show A.length + (B.length + 0) ≤ 1000000; omega)
 have hal : allP [(ka, A), (kb, B)] = A ++ B := by show A ++ (B ++ []) = A ++ B; rw [List.append_nil]
 have hok : Rec.Ok (if tot [(ka, A), (kb, B)] = 0 then none else some false) (A ++ B) := by
  intro hk
  split at hk
  ·rename_i h0
   exact List.eq_nil_of_length_eq_zero (by rw [← hal, tot_all, h0])
  ·cases hk
 rw [hal] at hcat
 generalize (if tot [(ka, A), (kb, B)] = 0 then none else some false) = kc at hcat hok
 have hcl : (A ++ B).length ≤ 1000 := by rw [List.length_append]; omega
 have inA := fun y => in_spec ka A y hA (by omega)
 have inB := fun y => in_spec kb B y hB (by omega)
 have rA : ∀ h, reify E.P 8 h (rectR.o ka A) = some (rectR.o ka A) := fun h => Rec.o_reify
 have rB : ∀ h, reify E.P 8 h (rectR.o kb B) = some (rectR.o kb B) := fun h => Rec.o_reify
 have bA : ∀ d n, below (d + 1) n (rectR.o ka A) = true := fun d n => Rec.o_bel
 have bB : ∀ d n, below (d + 1) n (rectR.o kb B) = true := fun d n => Rec.o_bel
 have st : settled depth (lst true [rectR.o ka A, rectR.o kb B]) = true := by
  cases ka <;> cases kb <;> rfl
 have li := fun h => lit_list2 h ka kb A B
 have hcat : pureCall E.P (L E) 52 [lst true [rectR.o ka A, rectR.o kb B]] = some (rectR.o kc (A ++ B)) := hcat
 have hys : ysB A B = sortU (yL (A ++ B)) := rfl
 rw [pureCall_fn F41 rfl, hys]
 generalize hVA : rectR.o ka A = VA at *
 generalize hVB : rectR.o kb B = VB at *
 generalize A ++ B = C at *
 simp -implicitDefEqProofs [r41, p41, prep_new, newK_nil s3, li, ret1 m52, hcat, st, Rec.o_len hok]
 rw [LL_for (γ := List Int) C [] (fun i c => [(7, intR.sl 0 c), (22, .int .i64 i)]) (fun _ c => [intR.row 3 c])
  (fun _ rest c => (.exit 0, [(7, intR.sl 0 (c ++ yL rest)), (22, undef)], [intR.row 3 (c ++ yL rest)])) (fun i c => c.length = 2 * i) (by omega) rfl]
 ·rw [List.nil_append]
  have hel := yL_len C
  have so := sortInts (h := [intR.row 3 (yL C)]) (b := 0) (lo := 0) (d := yL C) rfl (Nat.le_refl _) (by omega)
  obtain ⟨r, co, hr⟩ := compInts (h := [intR.row 3 (sortI (yL C))]) (b := 0) (lo := 0) (d := sortI (yL C)) rfl (Nat.le_refl _) (by rw [sortI_len]; omega)
  rw [Rg.comp_sort] at co hr
  have e1 : intR.sl 0 (sortI (yL C)) = intR.sl 0 (yL C) := int_sl (sortI_len _)
  rw [e1, sortI_len] at co
  rw [sortI_len] at hr
  generalize sortU (yL C) = ys at *
  generalize hn : (yL C).length = n at *
  have hyn : ys.length ≤ 40000 := by rw [List.length_append] at hr; omega
  obtain ⟨h', fz, hh⟩ := frz_pre (h := [intR.row 3 (ys ++ r)]) (b := 0) (lo := 0) (n := n) (e := ys) rfl hr (Nat.le_refl _)
  obtain ⟨d, hd, bd⟩ : ∃ d, h' = [d] ∧ ∀ n, belowO n d = true := by
   rw [hh]
   split
   ·exact ⟨_, rfl, fun n => Rec.row_bel _⟩
   ·exact ⟨_, rfl, fun n => rfl⟩
  subst hd
  have ln : ∀ h, lenT .sl h (lst false (intE.vals ys)) = some (.int .i64 ys.length) := fun h => Enc.o_len (O := intE) (k := some false) Enc.ok_some
  have ixy : ∀ (i : Nat) (hi : i < ys.length), indexAddrT (.sl 3 ⟨some false, some 1⟩) (lst false (intE.vals ys)) (.int .i64 (i : Int)) = some (cptr (.int .i64 ys[i])) := fun i hi => Enc.index_tree (O := intE) hi
  have bF : ∀ d n, below (d + 1) n (.func (.func 66) ⟨[]⟩ ⟨[]⟩) = true := fun d n => rfl
  have bC : ∀ d n, below (d + 1) n (rectR.o kc C) = true := fun d n => Rec.o_bel
  have bY : ∀ d n, below (d + 1) n (lst false (intE.vals ys)) = true := fun d n => rfl
  have wl : IntKind.i64.wrap ((ys.length : Int) - 1) = (ys.length : Int) - 1 := wrap64 (by omega) (by omega)
  simp -implicitDefEqProofs [k41_3, ret2 (E := E) (f := 14) rfl, ret2 (E := E) (f := 15) rfl, so, co, prep_frz, fz, prep_new, newK_nil zS, ln, wl, max_int]
  generalize hVY : lst false (intE.vals ys) = VY at *
  clear so co hcat li st
  rw [LL_rec (α := Nat × List (Pt × Pt)) (0, []) (fun c => [(11, sideR.sl 1 c.2), (42, .int .i64 (c.1 : Int))]) (fun c => [d, sideR.row 48 c.2])
   (fun c => (.exit 2, [(11, sideR.sl 1 (c.2 ++ upL x A B (ys.drop c.1))), (42, undef)], [d, sideR.row 48 (c.2 ++ upL x A B (ys.drop c.1))])) (fun c => c.1 ≤ ys.length ∧ c.2.length ≤ c.1) (fun c => ys.length - c.1)]
  ·have rr := Rec.reify_row (R := sideR) (P := E.P) (h := [d, sideR.row 48 (upL x A B ys)]) (b := 1) (n := 7) (t := 48) (l := upL x A B ys) rfl zS (by kernel_rfl)
   have rr : reifyR E.P [d, sideR.row 48 (upL x A B ys)] (sideR.sl 1 (upL x A B ys)) = _ := rr
   simp -implicitDefEqProofs [k41_12, rr]
  ·exact ⟨Nat.zero_le _, Nat.zero_le _⟩
  ·simp -implicitDefEqProofs [k41_12, Rec.sl_nil]
  ·rfl
  ·intro nx c hc ih
   obtain ⟨i, o⟩ := c
   obtain ⟨h1, h2⟩ := hc
   simp only at h1 h2
   by_cases hi : i + 1 < ys.length
   ·have hi' : (i : Int) < max 0 ((ys.length : Int) - 1) := by omega
    have wi : IntKind.i64.wrap ((i : Int) + 1) = ((i + 1 : Nat) : Int) := (wrap64 (by omega) (by omega)).trans (by omega)
    have x0 := ixy i (by omega)
    have x1 := ixy (i + 1) hi
    have hd : ys.drop i = ys[i] :: ys[i + 1] :: ys.drop (i + 2) := by
     rw [List.drop_eq_getElem_cons (show i < ys.length by omega), List.drop_eq_getElem_cons hi]
    have hd2 : ys.drop (i + 1) = ys[i + 1] :: ys.drop (i + 2) := List.drop_eq_getElem_cons hi
    have ek : upL x A B (ys[i] :: ys[i + 1] :: ys.drop (i + 2)) = (if (inY A ys[i] && !inY B ys[i]) = true then [((x, ys[i]), (x, ys[i + 1]))] else if (inY B ys[i] && !inY A ys[i]) = true then [((x, ys[i + 1]), (x, ys[i]))] else []) ++ upL x A B (ys[i + 1] :: ys.drop (i + 2)) := rfl
    rw [hd, ek, ← hd2, ← List.append_assoc]
    have ihA := ih (i + 1, o ++ [((x, ys[i]), (x, ys[i + 1]))]) (by show ys.length - (i + 1) < ys.length - i; omega) ⟨by show i + 1 ≤ ys.length; omega, by show (o ++ [_]).length ≤ i + 1; simp; omega⟩
    have ihB := ih (i + 1, o ++ [((x, ys[i + 1]), (x, ys[i]))]) (by show ys.length - (i + 1) < ys.length - i; omega) ⟨by show i + 1 ≤ ys.length; omega, by show (o ++ [_]).length ≤ i + 1; simp; omega⟩
    have ihC := ih (i + 1, o) (by show ys.length - (i + 1) < ys.length - i; omega) ⟨by show i + 1 ≤ ys.length; omega, by show o.length ≤ i + 1; omega⟩
    have iA := inA ys[i]
    have iB := inB ys[i]
    generalize ys[i] = u at *
    generalize ys[i + 1] = v at *
    have ap1 := fun a b => app_side (h := [d, sideR.row 48 o, a, b]) (b := 1) (lo := 0) (c := o) ((x, u), (x, v)) rfl (Nat.zero_le _) (by omega)
    have ap2 := fun a b => app_side (h := [d, sideR.row 48 o, a, b]) (b := 1) (lo := 0) (c := o) ((x, v), (x, u)) rfl (Nat.zero_le _) (by omega)
    simp -implicitDefEqProofs [k41_12, -List.append_assoc, -Int.natCast_add] at ihA ihB ihC
    cases qa : inY A u <;> cases qb : inY B u <;> rw [qa] at iA <;> rw [qb] at iB <;>
     simp -implicitDefEqProofs [r41_12, k41_12, hi', wi, x0, x1, prep_still, rop_loadC, isCp_cptr, bPt, ret0 m66, rA, rB, iA, iB, bSd, lit_side, ap1, ap2, trim_cut, bA, bB, bY, bC, bF, bd, pre_bel, Rec.sl_bel, Rec.row_bel, -List.append_assoc, -Int.natCast_add]
    ·exact ihC
    ·exact ihB
    ·exact ihA
    ·exact ihC
   ·have hi' : ¬ ((i : Int) < max 0 ((ys.length : Int) - 1)) := by omega
    rw [upL_end hi, List.append_nil]
    simp -implicitDefEqProofs [r41_12, k41_12, hi', trim_le]
 ·simp -implicitDefEqProofs [k41_3, Rec.sl_nil]
 ·rfl
 ·intro nx i c hi _
  simp -implicitDefEqProofs [r41_3, k41_3, hi, trim_le, yL]
 ·intro nx i s rest c hi hv hd hw hc ih
  have ixi := Rec.o_index (R := rectR) (t := 39) (kk := .i64) (s := 4) rfl hok hi
  rw [hv] at ixi
  have ap := fun o => app_two' (h := [intR.row 3 c, o]) (b := 0) (lo := 0) (c := c) s.y0 s.y1 rfl (Nat.le_refl _) (by omega)
  have ih := ih (c ++ [s.y0, s.y1]) (by simp; omega)
  rw [yL_cons, ← List.append_assoc]
  simp -implicitDefEqProofs [k41_3, -List.append_assoc] at ih
  simp -implicitDefEqProofs [r41_3, k41_3, hi, ixi, rect_val, lit_two, ap, hw, trim_cut, bA, bB, Rec.sl_bel, Rec.row_bel, Rec.o_bel, -List.append_assoc, -List.all_eq_true]
  exact ih
end Go.Proofs.Ytadnganaeigchaa.Bm
namespace Go.Proofs.Ytadnganaeigchaa.Bm
open Go Go.RowKit
theorem LL_ex {k : List Nat × List Nat} {b : Body} {σ₀ : Slots} {h₀ : Heap} {α : Type} (a₀ : α) (up : α → List (Nat × Value)) (H : α → Heap) (Q : Exit × Slots × Heap → Prop) (I : α → Prop) (ms : α → Nat)
  (hI : I a₀) (e0 : sets (up a₀) (forget k.1 σ₀) = forget k.1 σ₀) (e1 : H a₀ = h₀)
  (step : ∀ (nx : Body) a, I a → (∀ a', ms a' < ms a → I a' → ∃ r, nx (sets (up a') (forget k.1 σ₀)) (H a') = some r ∧ Q r) →
   ∃ r, lopK k.1 k.2 nx (H a).length (b (forget k.1 (sets (up a) (forget k.1 σ₀))) (H a)) = some r ∧ Q r) :
  ∃ r, LL k b σ₀ h₀ = some r ∧ Q r := by
 have key : ∀ n a, ms a = n → I a → ∃ r, LL k b (sets (up a) (forget k.1 σ₀)) (H a) = some r ∧ Q r := by
  intro n
  induction n using Nat.strongRecOn with
  | _ n ih =>
   intro a ha hi
   rw [LL_go]
   exact step (LL k b) a hi fun a' hlt hi' => ih (ms a') (by omega) a' rfl hi'
 have h := key _ a₀ rfl hI
 rw [e0, e1] at h
 have e : LL k b (forget k.1 σ₀) h₀ = LL k b σ₀ h₀ := by
  rw [LL_go, LL_go, forget_twice]
 rw [e] at h
 exact h
end Go.Proofs.Ytadnganaeigchaa.Bm
namespace Go.Proofs.Ytadnganaeigchaa.Bm
open Go Go.RowKit
theorem LL_ux {k : List Nat × List Nat} {b : Body} {σ₀ : Slots} {h₀ : Heap} {α U : Type} (a₀ : α) (up : α → List (Nat × Value)) (H : α → Heap) (e : Exit) (ups : U → List (Nat × Value)) (K : U → Heap → Prop) (I : α → Prop) (ms : α → Nat)
  (hI : I a₀) (e0 : sets (up a₀) (forget k.1 σ₀) = forget k.1 σ₀) (e1 : H a₀ = h₀)
  (step : ∀ (nx : Body) a, I a → (∀ a', ms a' < ms a → I a' → ∃ u h', nx (sets (up a') (forget k.1 σ₀)) (H a') = fin (forget k.1 σ₀) (e, ups u, h') ∧ K u h') →
   ∃ u h', lopK k.1 k.2 nx (H a).length (b (forget k.1 (sets (up a) (forget k.1 σ₀))) (H a)) = fin (forget k.1 σ₀) (e, ups u, h') ∧ K u h') :
  ∃ u h', LL k b σ₀ h₀ = fin (forget k.1 σ₀) (e, ups u, h') ∧ K u h' := by
 obtain ⟨r, h1, u, h', h2, h3⟩ := LL_ex (k := k) (b := b) (σ₀ := σ₀) (h₀ := h₀) a₀ up H (fun r => ∃ u h', some r = fin (forget k.1 σ₀) (e, ups u, h') ∧ K u h') I ms hI e0 e1 fun nx a ha ih => by
  obtain ⟨u, h', he, hk⟩ := step nx a ha fun a' hlt hi' => by
   obtain ⟨r, h1, u, h', h2, h3⟩ := ih a' hlt hi'
   exact ⟨u, h', h1.trans h2, h3⟩
  exact ⟨_, he, u, h', rfl, hk⟩
 exact ⟨u, h', h1.trans h2, h3⟩
end Go.Proofs.Ytadnganaeigchaa.Bm
namespace Go.Proofs.Ytadnganaeigchaa.Bm
open Go Go.RowKit
theorem Rec.app_nil {α : Type} {R : Rec α} {el : El} {h : Heap} {lo : Nat} {st : Bool} {m : List α} {u : Value} (hel : el.size = R.m + 1) (hu : sliceCells h el.size u = some (R.flat m, m.length)) (hm : m ≠ []) (hb : m.length * el.bytes ≤ 2 ^ 47) :
  appendT (some el) h lo st (.slice none 0 0) u = some (R.sl h.length m, h ++ [R.row el.e m]) := by
 have hm0 : m.length ≠ 0 := fun e => hm (List.eq_nil_of_length_eq_zero e)
 rw [append_nil, hu]
 simp only [Option.bind_some]
 rw [if_neg hm0, if_pos hb, Rec.flat_len]
 unfold Rec.row
 rw [hel]
 rfl
section
variable {α κ : Type} [DecidableEq κ] {R : Rec α} {t : TypeId} {lo : Nat} {h : Heap} {l : List (κ × Value)} {bl : κ → Nat} {f : κ → List α}
structure MR (R : Rec α) (t : TypeId) (lo : Nat) (h : Heap) (l : List (κ × Value)) (bl : κ → Nat) (f : κ → List α) : Prop where
 non : ∀ k, aget l k = none → f k = []
 val : ∀ k v, aget l k = some v → v = R.sl (bl k) (f k) ∧ h[bl k]? = some (R.row t (f k)) ∧ lo ≤ bl k
 inj : ∀ k j, aget l k ≠ none → aget l j ≠ none → bl k = bl j → k = j
def upd (f : κ → List α) (k : κ) (v : List α) : κ → List α := fun j => if k = j then v else f j
def updB (f : κ → Nat) (k : κ) (v : Nat) : κ → Nat := fun j => if k = j then v else f j
theorem get_lt {h : Heap} {b : Nat} {x : AObj} (q : h[b]? = some x) : b < h.length := by
 rcases Nat.lt_or_ge b h.length with c | c
 ·exact c
 ·rw [List.getElem?_eq_none c] at q; cases q
theorem MR.init : MR R t lo h ([] : List (κ × Value)) bl fun _ => [] := ⟨fun _ _ => rfl, fun k v q => by simp [aget] at q, fun k j q => absurd rfl q⟩
theorem MR.keep {h' : Heap} (M : MR R t lo h l bl f) (hk : ∀ o x, lo ≤ o → h[o]? = some x → h'[o]? = some x) : MR R t lo h' l bl f :=
 ⟨M.non, fun k v q => ⟨(M.val k v q).1, hk _ _ (M.val k v q).2.2 (M.val k v q).2.1, (M.val k v q).2.2⟩, M.inj⟩
theorem MR.keepB {h' : Heap} (M : MR R t lo h l bl f) (hk : ∀ k x, aget l k ≠ none → h[bl k]? = some x → h'[bl k]? = some x) : MR R t lo h' l bl f :=
 ⟨M.non, fun k v q => ⟨(M.val k v q).1, hk k _ (by rw [q]; simp) (M.val k v q).2.1, (M.val k v q).2.2⟩, M.inj⟩
theorem MR.lt (M : MR R t lo h l bl f) {k : κ} (hk : aget l k ≠ none) : lo ≤ bl k ∧ bl k < h.length := by
 cases q : aget l k with
 | none => exact absurd q hk
 | some v => exact ⟨(M.val k v q).2.2, get_lt (M.val k v q).2.1⟩
theorem MR.add {el : El} (M : MR R el.e lo h l bl f) {l0 : Nat} (h0 : l0 ≤ lo) (h1 : lo ≤ h.length) (k : κ) (a : α) {u : Value} (hel : el.size = R.m + 1) (hu : ∀ h, sliceCells h el.size u = some (R.flat [a], 1)) (hf : ((f k).length + 1) * el.bytes ≤ 2 ^ 47) :
  ∃ h' bl', appendT (some el) h l0 false ((aget l k).getD (.slice none 0 0)) u = some (R.sl (bl' k) (f k ++ [a]), h') ∧ MR R el.e lo h' (aset l k (R.sl (bl' k) (f k ++ [a]))) bl' (upd f k (f k ++ [a])) ∧ h.length ≤ h'.length ∧ (∀ o x, o < lo → h[o]? = some x → h'[o]? = some x) := by
 cases q : aget l k with
 | none =>
  have hn := M.non k q
  rw [hn]
  refine ⟨h ++ [R.row el.e [a]], updB bl k h.length, ?_, ⟨fun j hj => ?_, fun j v hj => ?_, fun i j hi hj e => ?_⟩, by simp, fun o x ho hx => by rw [List.getElem?_append_left (by omega)]; exact hx⟩
  ·have e : updB bl k h.length k = h.length := if_pos rfl
   rw [e]
   exact Rec.app_nil (R := R) (m := [a]) hel (hu h) (by simp) (by rw [hn] at hf; simpa using hf)
  ·rw [aget_set] at hj
   split at hj
   ·cases hj
   ·rename_i c; unfold upd; rw [if_neg c]; exact M.non j hj
  ·rw [aget_set] at hj
   unfold upd updB
   split at hj
   ·rename_i c
    subst c
    rw [if_pos rfl, if_pos rfl]
    refine ⟨?_, by simp, h1⟩
    cases hj
    unfold updB; rw [if_pos rfl]
   ·rename_i c
    rw [if_neg c, if_neg c]
    obtain ⟨m1, m2, m3⟩ := M.val j v hj
    exact ⟨m1, by rw [List.getElem?_append_left (get_lt m2)]; exact m2, m3⟩
  ·rw [aget_set] at hi hj
   unfold updB at e
   split at hi
   ·rename_i c
    split at hj
    ·rename_i d; exact c.symm.trans d
    ·rename_i d
     rw [if_pos c, if_neg d] at e
     cases qj : aget l j with
     | none => exact absurd qj hj
     | some v =>
      have := get_lt (M.val j v qj).2.1
      omega
   ·rename_i c
    split at hj
    ·rename_i d
     rw [if_neg c, if_pos d] at e
     cases qi : aget l i with
     | none => exact absurd qi hi
     | some v =>
      have := get_lt (M.val i v qi).2.1
      omega
    ·rename_i d
     rw [if_neg c, if_neg d] at e
     exact M.inj i j hi hj e
 | some v =>
  obtain ⟨m1, m2, m3⟩ := M.val k v q
  subst m1
  refine ⟨h.set (bl k) (R.row el.e (f k ++ [a])), bl, Rec.app (R := R) (m := [a]) hel m2 (hu h) (Nat.le_trans h0 m3) hf, ⟨fun j hj => ?_, fun j v hj => ?_, fun i j hi hj e => ?_⟩, by simp, fun o x ho hx => by rw [List.getElem?_set_ne (by omega)]; exact hx⟩
  ·rw [aget_set] at hj
   split at hj
   ·cases hj
   ·rename_i c; unfold upd; rw [if_neg c]; exact M.non j hj
  ·rw [aget_set] at hj
   unfold upd
   split at hj
   ·rename_i c
    subst c
    rw [if_pos rfl]
    cases hj
    exact ⟨rfl, by rw [List.getElem?_set_self (get_lt m2)], m3⟩
   ·rename_i c
    rw [if_neg c]
    obtain ⟨n1, n2, n3⟩ := M.val j v hj
    refine ⟨n1, ?_, n3⟩
    rw [List.getElem?_set_ne fun e => c (M.inj k j (by rw [q]; simp) (by rw [hj]; simp) e)]
    exact n2
  ·rw [aget_set] at hi hj
   refine M.inj i j ?_ ?_ e
   ·split at hi
    ·rename_i c; rw [← c, q]; simp
    ·exact hi
   ·split at hj
    ·rename_i c; rw [← c, q]; simp
    ·exact hj
theorem MR.trim {enc : κ → Value} {m n : Nat} {vs : List Value} (M : MR R t lo h l bl f) (hm : h[m]? = some (mapB enc l)) (hmn : m < n) : MR R t lo (Bm.trim n vs h) l bl f := by
 unfold Bm.trim
 split
 ·exact M
 split
 ·rename_i hc
  rw [Bool.and_eq_true] at hc
  have hc := hc.2
  have hb : belowO n (mapB enc l) = true := List.all_eq_true.1 hc _ (List.mem_of_getElem? (i := m) (by rw [List.getElem?_take_of_lt hmn]; exact hm))
  have hall : ∀ (l : List (κ × Value)) (i : Nat), ((ents enc l i).all fun e => below 8 n e.key && below 8 n e.val) = true → ∀ k v, aget l k = some v → below 8 n v = true := by
   intro l
   induction l with
   | nil => intro i _ k v q; simp [aget] at q
   | cons p l ih =>
    intro i ha k v q
    simp only [ents, List.all_cons, Bool.and_eq_true] at ha
    unfold aget at q
    split at q
    ·cases q; exact ha.1.2
    ·exact ih _ ha.2 k v q
  refine ⟨M.non, fun k v q => ?_, M.inj⟩
  obtain ⟨m1, m2, m3⟩ := M.val k v q
  have hv := hall l 0 hb k v q
  rw [m1] at hv
  have hv : bl k < n := of_decide_eq_true hv
  exact ⟨m1, by rw [List.getElem?_take_of_lt hv]; exact m2, m3⟩
 ·exact M
theorem trim_get {n o : Nat} {vs : List Value} {x : AObj} (ho : o < n) (hx : h[o]? = some x) : (Bm.trim n vs h)[o]? = some x := by
 unfold Bm.trim
 split
 ·exact hx
 split
 ·rw [List.getElem?_take_of_lt ho]; exact hx
 ·exact hx
end
theorem LL_uxk {k : List Nat × List Nat} {b : Body} {σ₀ : Slots} {h₀ : Heap} {X : CRes} (hX : LL k b σ₀ h₀ = X) {α U : Type} (a₀ : α) (up : α → List (Nat × Value)) (H : α → Heap) (e : Exit) (ups : U → List (Nat × Value)) (K : U → Heap → Prop) (I : α → Prop) (ms : α → Nat)
  (hI : I a₀) (e0 : sets (up a₀) (forget k.1 σ₀) = forget k.1 σ₀) (e1 : H a₀ = h₀)
  (step : ∀ (nx : Body) a, I a → (∀ a', ms a' < ms a → I a' → ∃ u h', nx (sets (up a') (forget k.1 σ₀)) (H a') = fin (forget k.1 σ₀) (e, ups u, h') ∧ K u h') →
   ∃ u h', lopK k.1 k.2 nx (H a).length (b (forget k.1 (sets (up a) (forget k.1 σ₀))) (H a)) = fin (forget k.1 σ₀) (e, ups u, h') ∧ K u h') :
  ∃ u h', X = fin (forget k.1 σ₀) (e, ups u, h') ∧ K u h' := by
 rw [← hX]
 exact LL_ux a₀ up H e ups K I ms hI e0 e1 step
end Go.Proofs.Ytadnganaeigchaa.Bm
namespace Go.Proofs.Ytadnganaeigchaa.Bm
open Go Go.RowKit
open Rg (Rect Pt sortU endsX begsX)
theorem lookup_get {P : Program} {κ : Type} [DecidableEq κ] {enc : κ → Value} {l : List (κ × Value)} {kt : TypeId} {k : κ} {r : Nat} {h : Heap} {zv : Value} (K : KeyEnc P kt enc) (hh : h[r]? = some (mapB enc l)) :
  lookupT P (some ⟨kt, some zv⟩) h (.map (some r)) (enc k) false = some ((aget l k).getD zv) := by
 cases q : aget l k with
 | none => rw [lookup_none K rfl hh q]; rfl
 | some v => rw [lookup_some K rfl hh q]; rfl
theorem uI : E.P.underlying 3 = some (.int .i64) := by kernel_rfl
def encI (z : Int) : Value := .int .i64 z
theorem keyI : KeyEnc E.P 3 encI := ⟨fun _ => rfl, fun _ => by simp [encI, keyOk, uI], fun a b => by simp [encI, aKeyEq, uI, Instr.sameNow]; rfl, fun _ => by simp [encI, Instr.sameBits]⟩
theorem MR.congr {α κ : Type} [DecidableEq κ] {R : Rec α} {t : TypeId} {lo : Nat} {h : Heap} {l : List (κ × Value)} {bl : κ → Nat} {f g : κ → List α} (M : MR R t lo h l bl f) (e : ∀ k, f k = g k) : MR R t lo h l bl g := by
 have : f = g := funext e
 rw [← this]; exact M
theorem begs_snoc {a : List Rect} {i : Nat} (hi : i < a.length) (x : Int) : upd (fun x => begsX (a.take i) x) a[i].x0 (begsX (a.take i) a[i].x0 ++ [a[i]]) x = begsX (a.take (i + 1)) x := by
 have e : a.take (i + 1) = a.take i ++ [a[i]] := by rw [List.take_add_one, List.getElem?_eq_getElem hi]; rfl
 unfold upd begsX
 rw [e, List.filter_append]
 by_cases q : a[i].x0 = x
 ·rw [if_pos q, q]; simp [q]
 ·rw [if_neg q]; simp [q]
theorem ends_snoc {a : List Rect} {i : Nat} (hi : i < a.length) (x : Int) : upd (fun x => endsX (a.take i) x) a[i].x1 (endsX (a.take i) a[i].x1 ++ [a[i]]) x = endsX (a.take (i + 1)) x := by
 have e : a.take (i + 1) = a.take i ++ [a[i]] := by rw [List.take_add_one, List.getElem?_eq_getElem hi]; rfl
 unfold upd endsX
 rw [e, List.filter_append]
 by_cases q : a[i].x1 = x
 ·rw [if_pos q, q]; simp [q]
 ·rw [if_neg q]; simp [q]
theorem frz_cell {g : Heap} (r : Rect) : freezeV E.P depth 0 (g ++ [.cells 39 [.int .i64 r.x0, .int .i64 r.y0, .int .i64 r.x1, .int .i64 r.y1] 0]) (.pointer (some ⟨g.length, 0, none⟩)) = some (cptr (.agg ⟨[.int .i64 r.x0, .int .i64 r.y0, .int .i64 r.x1, .int .i64 r.y1]⟩), g ++ [.dead]) := by
 have key := obj_frz (P := E.P) (h := g ++ [.cells 39 [.int .i64 r.x0, .int .i64 r.y0, .int .i64 r.x1, .int .i64 r.y1] 0]) (b := g.length) (lo := 0) (t := 39) (c := [.int .i64 r.x0, .int .i64 r.y0, .int .i64 r.x1, .int .i64 r.y1]) end0 s32 a32 (Nat.zero_le _) rfl
 rw [set0] at key
 exact key
def elR : El := ⟨39, 4, 32, .agg ⟨[.int .i64 0, .int .i64 0, .int .i64 0, .int .i64 0]⟩, ⟨some true, some 4⟩⟩
theorem columns_spec (k : Option Bool) (a : List Rect) (hk : Rec.Ok k a) (ha : a.length ≤ 1000000) (h : Heap) :
  ∃ l bl g, L E 40 [rectR.o k a] h 0 = some (.map (some h.length), g) ∧ g[h.length]? = some (mapB encI l) ∧ MR rectR 39 (h.length + 1) g l bl (fun x => begsX a x) ∧ (∀ o x, o < h.length → h[o]? = some x → g[o]? = some x) := by
 have bA : ∀ d n, below (d + 1) n (rectR.o k a) = true := fun d n => Rec.o_bel
 have lA : ∀ h, lenT .sl h (rectR.o k a) = some (.int .i64 a.length) := fun h => Rec.o_len hk
 have ix : ∀ (i : Nat) (hi : i < a.length), indexAddrT (.sl 39 ⟨some true, some 4⟩) (rectR.o k a) (.int .i64 (i : Int)) = some (cptr (rectR.val a[i])) := fun i hi => Rec.o_index (R := rectR) rfl hk hi
 rw [L_fn F40 rfl]
 generalize hVA : rectR.o k a = VA at *
 have fm : flat (.map none) = true := rfl
 simp -implicitDefEqProofs [r40, p40, lA, fm]
 generalize hX : LL _ _ _ _ = X
 obtain ⟨u, g, rfl, hg⟩ := LL_uxk hX (α := Nat × List (Int × Value) × (Int → Nat) × Heap) (U := List (Int × Value) × (Int → Nat)) (0, [], fun _ => 0, h ++ [mapB encI []]) (fun c => [(9, .int .i64 (c.1 : Int))]) (fun c => c.2.2.2) (.exit 0) (fun _ => [(9, undef)])
   (fun u g => g[h.length]? = some (mapB encI u.1) ∧ MR rectR 39 (h.length + 1) g u.1 u.2 (fun x => begsX a x) ∧ (∀ o x, o < h.length → h[o]? = some x → g[o]? = some x))
   (fun c => c.1 ≤ a.length ∧ c.2.2.2[h.length]? = some (mapB encI c.2.1) ∧ MR rectR 39 (h.length + 1) c.2.2.2 c.2.1 c.2.2.1 (fun x => begsX (a.take c.1) x) ∧ (∀ o x, o < h.length → h[o]? = some x → c.2.2.2[o]? = some x)) (fun c => a.length - c.1)
  ⟨Nat.zero_le _, end0, MR.init, fun o x ho hx => by rw [List.getElem?_append_left ho]; exact hx⟩
  (by simp -implicitDefEqProofs [k40_3]) rfl (by
  intro nx c hc ih
  obtain ⟨i, l, bl, g⟩ := c
  obtain ⟨h1, h2, h3, h4⟩ := hc
  simp only at h1 h2 h3 h4
  have hgl := get_lt h2
  by_cases hi : i < a.length
  ·have e0 := ix i hi
   have m0 : (g ++ [AObj.dead])[h.length]? = some (mapB encI l) := by rw [List.getElem?_append_left hgl]; exact h2
   have M0 : MR rectR 39 (h.length + 1) (g ++ [AObj.dead]) l bl (fun x => begsX (a.take i) x) := h3.keep fun o x _ hx => by rw [List.getElem?_append_left (get_lt hx)]; exact hx
   have hbl : (begsX (a.take i) a[i].x0).length ≤ i := by
    have h1 : (begsX (a.take i) a[i].x0).length ≤ (a.take i).length := List.length_filter_le _ _
    rw [List.length_take] at h1; omega
   obtain ⟨h', bl', ap, M1, hl1, hk1⟩ := M0.add (el := elR) (l0 := 0) (Nat.zero_le _) (by simp; omega) a[i].x0 a[i] (u := lst true [rectR.val a[i]]) rfl (fun h => Rec.cells_tree (R := rectR) rfl [a[i]]) (by show (_ + 1) * 32 ≤ 2 ^ 47; omega)
   have m1 := hk1 _ _ (by omega) m0
   have M1 := M1.congr (begs_snoc hi)
   have lk := lookup_get (P := E.P) (h := g ++ [AObj.dead]) (zv := .slice none 0 0) (k := a[i].x0) keyI m0
   have pm := put_map (P := E.P) (h := h') (lo := 0) (z := some (.slice none 0 0)) (k := a[i].x0) (x := rectR.sl (bl' a[i].x0) (begsX (a.take i) a[i].x0 ++ [a[i]])) keyI m1 (Nat.zero_le _)
   have fz := frz_cell (g := g) a[i]
   have wi : IntKind.i64.wrap ((i : Int) + 1) = ((i + 1 : Nat) : Int) := (wrap64 (by omega) (by omega)).trans (by omega)
   generalize hL : aset l a[i].x0 (rectR.sl (bl' a[i].x0) (begsX (a.take i) a[i].x0 ++ [a[i]])) = l' at *
   have m2 : (h'.set h.length (mapB encI l'))[h.length]? = some (mapB encI l') := by rw [List.getElem?_set_self (get_lt m1)]
   have M2 : MR rectR 39 (h.length + 1) (h'.set h.length (mapB encI l')) l' bl' (fun x => begsX (a.take (i + 1)) x) := M1.keep fun o x ho hx => by rw [List.getElem?_set_ne (by omega)]; exact hx
   have k2 : ∀ o x, o < h.length → h[o]? = some x → (h'.set h.length (mapB encI l'))[o]? = some x := fun o x ho hx => by
    rw [List.getElem?_set_ne (by omega)]
    exact hk1 o x (by omega) (by rw [List.getElem?_append_left (by omega)]; exact h4 o x ho hx)
   rw [rect_val] at e0 ap
   generalize (aget l a[i].x0).getD (.slice none 0 0) = u at *
   generalize rectR.sl (bl' a[i].x0) (begsX (a.take i) a[i].x0 ++ [a[i]]) = v at *
   unfold elR at ap
   unfold encI at lk pm
   have ih := fun vs => ih (i + 1, l', bl', trim g.length vs (h'.set h.length (mapB encI l'))) (by show a.length - (i + 1) < a.length - i; omega) ⟨hi, trim_get hgl m2, M2.trim m2 hgl, fun o x ho hx => trim_get (by omega) (k2 o x ho hx)⟩
   simp -implicitDefEqProofs [k40_3] at ih
   simp -implicitDefEqProofs [r40_3, k40_3, hi, e0, prep_frz, prep_still, fz, rop_loadC, isCp_cptr, lk, lit_rect, ap, pm, wi]
   exact ih _
  ·refine ⟨(l, bl), g, ?_, h2, by rw [List.take_of_length_le (by omega)] at h3; exact h3, h4⟩
   simp -implicitDefEqProofs [r40_3, k40_3, hi, trim_le])
 refine ⟨u.1, u.2, g, ?_, hg⟩
 simp -implicitDefEqProofs [k40_3]
end Go.Proofs.Ytadnganaeigchaa.Bm
namespace Go.Proofs.Ytadnganaeigchaa.Bm
open Go Go.RowKit
open Rg (Rect Pt sortU endsX begsX botR topR bdH bdL ysB upL xsB inY)
theorem frzAll3 {P : Program} {lo : Nat} {a b c a' b' c' : Value} {h h1 h2 h3 : Heap} (f1 : freezeV P depth lo h a = some (a', h1)) (f2 : freezeV P depth lo h1 b = some (b', h2)) (f3 : freezeV P depth lo h2 c = some (c', h3)) : frzAll P lo [a, b, c] h = some ([a', b', c'], h3) := by
 unfold frzAll
 simp [List.foldlM, f1, f2, f3]
theorem row_frz {P : Program} {α κ : Type} [DecidableEq κ] {R : Rec α} {t : TypeId} {lo : Nat} {h : Heap} {l : List (κ × Value)} {b : Nat} {L : List α} {k : κ} (hs : szOf P t = some (R.m + 1)) (ha : aggT P t = some true) (hlo : lo ≤ b)
  (q : (aget l k = none ∧ L = []) ∨ (aget l k = some (R.sl b L) ∧ h[b]? = some (R.row t L))) :
  ∃ kk h', freezeV P depth lo h ((aget l k).getD (.slice none 0 0)) = some (R.o kk L, h') ∧ Rec.Ok kk L ∧ h'.length = h.length ∧ (∀ o x, (aget l k ≠ none → o ≠ b) → h[o]? = some x → h'[o]? = some x) := by
 rcases q with ⟨q1, rfl⟩ | ⟨q1, q2⟩
 ·refine ⟨none, h, ?_, fun _ => rfl, rfl, fun _ _ _ hx => hx⟩
  rw [q1]
  exact frz_set8 rfl rfl
 ·rw [q1]
  refine ⟨some false, _, Rec.freeze_row q2 hs ha hlo, Rec.ok_some, ?_, fun o x ho hx => ?_⟩
  ·split
   ·rfl
   ·simp
  ·split
   ·exact hx
   ·rw [List.getElem?_set_ne (Ne.symm (ho (by simp)))]; exact hx
theorem lit_side2 (h : Heap) (a b c d a' b' c' d' : Int) : buildSliceT (some ⟨48, 4, 32, .agg ⟨[.int .i64 0, .int .i64 0, .int .i64 0, .int .i64 0]⟩, ⟨some true, some 4⟩⟩) false h 2 #[(0, .agg ⟨[.int .i64 a, .int .i64 b, .int .i64 c, .int .i64 d]⟩), (1, .agg ⟨[.int .i64 a', .int .i64 b', .int .i64 c', .int .i64 d']⟩)] = some (lst true [.agg ⟨[.int .i64 a, .int .i64 b, .int .i64 c, .int .i64 d]⟩, .agg ⟨[.int .i64 a', .int .i64 b', .int .i64 c', .int .i64 d']⟩], h) :=
 (build_lit' (n := 2) (l := [(0, .agg ⟨[.int .i64 a, .int .i64 b, .int .i64 c, .int .i64 d]⟩), (1, .agg ⟨[.int .i64 a', .int .i64 b', .int .i64 c', .int .i64 d']⟩)]) rfl rfl (by decide) (by decide) (by decide)).trans rfl
def elSd : El := ⟨48, 4, 32, .agg ⟨[.int .i64 0, .int .i64 0, .int .i64 0, .int .i64 0]⟩, ⟨some true, some 4⟩⟩
def cellR (r : Rect) : AObj := .cells 39 [.int .i64 r.x0, .int .i64 r.y0, .int .i64 r.x1, .int .i64 r.y1] 0
theorem cellR_load {h : Heap} {b : Nat} {r : Rect} (hb : h[b]? = some (cellR r)) : (∀ s, loadT ⟨some false, s⟩ h (.pointer (some ⟨b, 0, none⟩)) = some (.int .i64 r.x0)) ∧ (∀ s, loadT ⟨some false, s⟩ h (.pointer (some ⟨b, 1, none⟩)) = some (.int .i64 r.y0)) ∧ (∀ s, loadT ⟨some false, s⟩ h (.pointer (some ⟨b, 2, none⟩)) = some (.int .i64 r.x1)) ∧ (∀ s, loadT ⟨some false, s⟩ h (.pointer (some ⟨b, 3, none⟩)) = some (.int .i64 r.y1)) :=
 ⟨fun _ => obj_load (j := 0) hb rfl, fun _ => obj_load (j := 1) hb rfl, fun _ => obj_load (j := 2) hb rfl, fun _ => obj_load (j := 3) hb rfl⟩
theorem bdH_snoc {a : List Rect} {i : Nat} (hi : i < a.length) : bdH (a.take (i + 1)) = bdH (a.take i) ++ [botR a[i], topR a[i]] := by
 have e : a.take (i + 1) = a.take i ++ [a[i]] := by rw [List.take_add_one, List.getElem?_eq_getElem hi]; rfl
 unfold bdH
 rw [e, List.flatMap_append]; simp
theorem xsL_snoc {a : List Rect} {i : Nat} (hi : i < a.length) : xsL (a.take (i + 1)) = xsL (a.take i) ++ [a[i].x0, a[i].x1] := by
 have e : a.take (i + 1) = a.take i ++ [a[i]] := by rw [List.take_add_one, List.getElem?_eq_getElem hi]; rfl
 unfold xsL
 rw [e, List.flatMap_append]; simp
theorem bdH_len (a : List Rect) : (bdH a).length = 2 * a.length := by
 induction a with
 | nil => rfl
 | cons r l ih =>
  have e2 : (r :: l).length = l.length + 1 := rfl
  have e3 : bdH (r :: l) = [botR r, topR r] ++ bdH l := rfl
  have e4 : [botR r, topR r].length = 2 := rfl
  rw [e3, List.length_append, ih, e2, e4]; omega
theorem upL_len (x : Int) (A B : List Rect) : ∀ ys : List Int, (upL x A B ys).length ≤ ys.length
 | [] => Nat.le_refl _
 | [_] => Nat.zero_le _
 | u :: v :: ys => by
  have ih := upL_len x A B (v :: ys)
  have e : upL x A B (u :: v :: ys) = (if (inY A u && !inY B u) = true then [((x, u), (x, v))] else if (inY B u && !inY A u) = true then [((x, v), (x, u))] else []) ++ upL x A B (v :: ys) := rfl
  rw [e, List.length_append, show (u :: v :: ys).length = (v :: ys).length + 1 from rfl]
  split
  ·show 1 + _ ≤ _; omega
  ·split
   ·show 1 + _ ≤ _; omega
   ·show 0 + _ ≤ _; omega
def BdA (a : List Rect) (n : Nat) (l : List (Int × Value)) (bl : Int → Nat) (g : Heap) : Prop :=
 g[0]? = some (mapB encI l) ∧ g[1]? = some (sideR.row 48 (bdH (a.take n))) ∧ g[2]? = some (intR.row 3 (xsL (a.take n))) ∧ MR rectR 39 3 g l bl (fun x => endsX (a.take n) x)
theorem flatMap_le {β : Type} {f : Int → List β} {n : Nat} (h : ∀ x, (f x).length ≤ n) : ∀ l : List Int, (l.flatMap f).length ≤ l.length * n
 | [] => by simp
 | x :: l => by
  have := flatMap_le h l
  have h1 := h x
  rw [List.flatMap_cons, List.length_append, List.length_cons, Nat.succ_mul]
  omega
theorem colX_len (a : List Rect) (x : Int) (ha : a.length ≤ 200) : (Rg.colX a x).length ≤ 800 := by
 have h1 := upL_len x (endsX a x) (begsX a x) (ysB (endsX a x) (begsX a x))
 have h2 := Rg.sortU_le (yL (endsX a x ++ begsX a x))
 have h3 := yL_len (endsX a x ++ begsX a x)
 have h4 : (endsX a x).length ≤ a.length := List.length_filter_le _ _
 have h5 : (begsX a x).length ≤ a.length := List.length_filter_le _ _
 rw [List.length_append] at h3
 have h6 : (ysB (endsX a x) (begsX a x)).length ≤ (yL (endsX a x ++ begsX a x)).length := h2
 show (upL x _ _ _).length ≤ 800
 omega
def Q7 (f : Int → List Rect) (l : List (Int × Value)) (bl : Int → Nat) (g : Heap) (x : Int) : Prop :=
 (aget l x = none ∧ f x = []) ∨ (aget l x = some (rectR.sl (bl x) (f x)) ∧ g[bl x]? = some (rectR.row 39 (f x)))
theorem MR.q7 {lo : Nat} {g : Heap} {l : List (Int × Value)} {bl : Int → Nat} {f : Int → List Rect} (M : MR rectR 39 lo g l bl f) (x : Int) : Q7 f l bl g x := by
 cases q : aget l x with
 | none => exact .inl ⟨q, M.non x q⟩
 | some v =>
  obtain ⟨m1, m2, _⟩ := M.val x v q
  exact .inr ⟨by rw [q, m1], m2⟩
theorem Q7.keep {g g' : Heap} {l : List (Int × Value)} {bl : Int → Nat} {f : Int → List Rect} {x : Int} (h : Q7 f l bl g x) (hk : aget l x ≠ none → ∀ y, g[bl x]? = some y → g'[bl x]? = some y) : Q7 f l bl g' x := by
 rcases h with h | ⟨h1, h2⟩
 ·exact .inl h
 ·exact .inr ⟨h1, hk (by rw [h1]; simp) _ h2⟩
theorem boundary_one (k : Option Bool) (a : List Rect) (hk : Rec.Ok k a) (ha : a.length ≤ 200) : pureCall E.P (L E) 19 [rectR.o k a] = some (lst false (sideR.vals (bdL a))) := by
 have bA : ∀ d n, below (d + 1) n (rectR.o k a) = true := fun d n => Rec.o_bel
 have lA : ∀ h, lenT .sl h (rectR.o k a) = some (.int .i64 a.length) := fun h => Rec.o_len hk
 have ix : ∀ (i : Nat) (hi : i < a.length), indexAddrT (.sl 39 ⟨some true, some 4⟩) (rectR.o k a) (.int .i64 (i : Int)) = some (cptr (rectR.val a[i])) := fun i hi => Rec.o_index (R := rectR) rfl hk hi
 have cs := fun h => columns_spec k a hk (by omega) h
 rw [pureCall_fn F19 rfl]
 generalize hVA : rectR.o k a = VA at *
 have fm : flat (.map none) = true := rfl
 have sS : szOf E.P 48 = some 4 := zS
 simp -implicitDefEqProofs [r19, p19, lA, fm, prep_new, newK_nil zS, newK_nil s3]
 generalize hX : LL _ _ _ _ = X
 obtain ⟨u, g, rfl, g0, g1, g2, gM⟩ := LL_uxk hX (α := Nat × List (Int × Value) × (Int → Nat) × Heap) (U := List (Int × Value) × (Int → Nat)) (0, [], fun _ => 0, [mapB encI [], sideR.row 48 [], intR.row 3 []]) (fun c => [(3, sideR.sl 1 (bdH (a.take c.1))), (4, intR.sl 2 (xsL (a.take c.1))), (14, .int .i64 (c.1 : Int))]) (fun c => c.2.2.2) (.exit 0) (fun _ => [(3, sideR.sl 1 (bdH a)), (4, intR.sl 2 (xsL a)), (14, undef)])
   (fun u g => BdA a a.length u.1 u.2 g)
   (fun c => c.1 ≤ a.length ∧ BdA a c.1 c.2.1 c.2.2.1 c.2.2.2) (fun c => a.length - c.1)
  ⟨Nat.zero_le _, rfl, rfl, rfl, MR.init⟩
  (by simp -implicitDefEqProofs [k19_5, bdH, xsL, Rec.sl_nil]) rfl (by
  intro nx c hc ih
  obtain ⟨i, l, bl, g⟩ := c
  obtain ⟨h1, h2, h3, h4, h5⟩ := hc
  simp only at h1 h2 h3 h4 h5
  have hgl := get_lt h4
  have hgn : g.length ≠ 0 := by omega
  by_cases hi : i < a.length
  ·have e0 := ix i hi
   have hce : ∀ r : Rect, AObj.cells 39 [.int .i64 r.x0, .int .i64 r.y0, .int .i64 r.x1, .int .i64 r.y1] 0 = cellR r := fun _ => rfl
   have e2 : bdH (a.take i) ++ [botR a[i], topR a[i]] = bdH (a.take (i + 1)) := (bdH_snoc hi).symm
   have e3 : xsL (a.take i) ++ [a[i].x0, a[i].x1] = xsL (a.take (i + 1)) := (xsL_snoc hi).symm
   have lb : (bdH (a.take i)).length ≤ 2 * i := by rw [bdH_len, List.length_take]; omega
   have lx : (xsL (a.take i)).length ≤ 2 * i := by rw [xsL_len, List.length_take]; omega
   -- the heaps of the round
   have q1 : (g ++ [cellR a[i]])[1]? = some (sideR.row 48 (bdH (a.take i))) := by rw [List.getElem?_append_left (by omega)]; exact h3
   have q1c : (g ++ [cellR a[i]])[g.length]? = some (cellR a[i]) := end0
   have a1 := Rec.app (R := sideR) (el := elSd) (h := g ++ [cellR a[i]]) (lo := 0) (m := [botR a[i], topR a[i]]) (u := lst true (sideR.vals [botR a[i], topR a[i]])) rfl q1 (Rec.cells_tree (R := sideR) rfl _) (Nat.zero_le _) (by show (_ + 2) * 32 ≤ 2 ^ 47; omega)
   rw [e2] at a1
   generalize hG1 : (g ++ [cellR a[i]]).set 1 (sideR.row 48 (bdH (a.take (i + 1)))) = G1 at *
   have q2 : G1[2]? = some (intR.row 3 (xsL (a.take i))) := by rw [← hG1, List.getElem?_set_ne (by decide), List.getElem?_append_left (by omega)]; exact h4
   have q2c : G1[g.length]? = some (cellR a[i]) := by rw [← hG1, List.getElem?_set_ne (by omega)]; exact q1c
   obtain ⟨d0, d1, d2, d3⟩ := cellR_load q2c
   have a2 := app_two' (h := G1) (b := 2) (lo := 0) (c := xsL (a.take i)) a[i].x0 a[i].x1 q2 (Nat.zero_le _) (by omega)
   rw [e3] at a2
   generalize hG2 : G1.set 2 (intR.row 3 (xsL (a.take (i + 1)))) = G2 at *
   have q3c : G2[g.length]? = some (cellR a[i]) := by rw [← hG2, List.getElem?_set_ne (by omega)]; exact q2c
   have fz : freezeV E.P depth 0 G2 (.pointer (some ⟨g.length, 0, none⟩)) = some (cptr (.agg ⟨[.int .i64 a[i].x0, .int .i64 a[i].y0, .int .i64 a[i].x1, .int .i64 a[i].y1]⟩), G2.set g.length .dead) := obj_frz (P := E.P) q3c s32 a32 (Nat.zero_le _) rfl
   generalize hG3 : G2.set g.length .dead = G3 at *
   have old : ∀ o x, o < g.length → o ≠ 1 → o ≠ 2 → g[o]? = some x → G3[o]? = some x := fun o x ho n1 n2 hx => by
    rw [← hG3, List.getElem?_set_ne (by omega), ← hG2, List.getElem?_set_ne (by omega), ← hG1, List.getElem?_set_ne (by omega), List.getElem?_append_left ho]; exact hx
   have m0 := old 0 _ (by omega) (by decide) (by decide) h2
   have w1 : G3[1]? = some (sideR.row 48 (bdH (a.take (i + 1)))) := by
    rw [← hG3, List.getElem?_set_ne (by omega), ← hG2, List.getElem?_set_ne (by decide), ← hG1, List.getElem?_set_self (by simp; omega)]
   have w2 : G3[2]? = some (intR.row 3 (xsL (a.take (i + 1)))) := by
    rw [← hG3, List.getElem?_set_ne (by omega), ← hG2, List.getElem?_set_self (get_lt q2)]
   have hG3l : 3 ≤ G3.length := by have := get_lt w2; omega
   have M0 : MR rectR 39 3 G3 l bl (fun x => endsX (a.take i) x) := h5.keep fun o x ho hx => old o x (get_lt hx) (by omega) (by omega) hx
   have hbl : (endsX (a.take i) a[i].x1).length ≤ i := by
    have h1 : (endsX (a.take i) a[i].x1).length ≤ (a.take i).length := List.length_filter_le _ _
    rw [List.length_take] at h1; omega
   obtain ⟨h', bl', ap, M1, hl1, hk1⟩ := M0.add (el := elR) (l0 := 0) (Nat.zero_le _) hG3l a[i].x1 a[i] (u := lst true [rectR.val a[i]]) rfl (fun h => Rec.cells_tree (R := rectR) rfl [a[i]]) (by show (_ + 1) * 32 ≤ 2 ^ 47; omega)
   have m1 := hk1 _ _ (by omega) m0
   have M1 := M1.congr (ends_snoc hi)
   have lk := lookup_get (P := E.P) (h := G3) (zv := .slice none 0 0) (k := a[i].x1) keyI m0
   have pm := put_map (P := E.P) (h := h') (lo := 0) (z := some (.slice none 0 0)) (k := a[i].x1) (x := rectR.sl (bl' a[i].x1) (endsX (a.take i) a[i].x1 ++ [a[i]])) keyI m1 (Nat.zero_le _)
   have wi : IntKind.i64.wrap ((i : Int) + 1) = ((i + 1 : Nat) : Int) := (wrap64 (by omega) (by omega)).trans (by omega)
   generalize hL : aset l a[i].x1 (rectR.sl (bl' a[i].x1) (endsX (a.take i) a[i].x1 ++ [a[i]])) = l' at *
   have m2 : (h'.set 0 (mapB encI l'))[0]? = some (mapB encI l') := by rw [List.getElem?_set_self (get_lt m1)]
   have M2 : MR rectR 39 3 (h'.set 0 (mapB encI l')) l' bl' (fun x => endsX (a.take (i + 1)) x) := M1.keep fun o x ho hx => by rw [List.getElem?_set_ne (by omega)]; exact hx
   have v1 : (h'.set 0 (mapB encI l'))[1]? = some (sideR.row 48 (bdH (a.take (i + 1)))) := by rw [List.getElem?_set_ne (by decide)]; exact hk1 _ _ (by decide) w1
   have v2 : (h'.set 0 (mapB encI l'))[2]? = some (intR.row 3 (xsL (a.take (i + 1)))) := by rw [List.getElem?_set_ne (by decide)]; exact hk1 _ _ (by decide) w2
   rw [rect_val] at e0 ap
   generalize (aget l a[i].x1).getD (.slice none 0 0) = u at *
   generalize rectR.sl (bl' a[i].x1) (endsX (a.take i) a[i].x1 ++ [a[i]]) = v at *
   unfold elR at ap
   unfold elSd at a1
   unfold encI at lk pm
   have hvv : lst true (sideR.vals [botR a[i], topR a[i]]) = lst true [.agg ⟨[.int .i64 a[i].x0, .int .i64 a[i].y0, .int .i64 a[i].x1, .int .i64 a[i].y0]⟩, .agg ⟨[.int .i64 a[i].x1, .int .i64 a[i].y1, .int .i64 a[i].x0, .int .i64 a[i].y1]⟩] := rfl
   rw [hvv] at a1
   have ih := fun vs => ih (i + 1, l', bl', trim g.length vs (h'.set 0 (mapB encI l'))) (by show a.length - (i + 1) < a.length - i; omega) ⟨hi, trim_get (by omega) m2, trim_get (by omega) v1, trim_get (by omega) v2, M2.trim m2 (by omega)⟩
   obtain ⟨c0, c1, c2, c3⟩ := cellR_load q1c
   simp -implicitDefEqProofs [k19_5] at ih
   simp -implicitDefEqProofs [r19_5, k19_5, hi, e0, hce, c0, c1, c2, c3, bPt, bSd, lit_side2, a1, d0, d1, d2, d3, lit_two, a2, prep_frz, prep_still, fz, rop_loadC, isCp_cptr, lk, lit_rect, ap, pm, wi]
   exact ih _
  ·have e : a.take i = a := List.take_of_length_le (by omega)
   refine ⟨(l, bl), g, ?_, h2, by rw [e] at h3; rw [List.take_length]; exact h3, by rw [e] at h4; rw [List.take_length]; exact h4, by rw [e] at h5; rw [List.take_length]; exact h5⟩
   simp -implicitDefEqProofs [r19_5, k19_5, hi, e, trim_le])
 rw [List.take_length] at g1 g2 gM
 have sB : szOf E.P 39 = some (rectR.m + 1) := s32
 obtain ⟨l1, b1⟩ := u
 simp only at g0 gM
 have lx := xsL_len a
 have lb := bdH_len a
 have so := sortInts (h := g) (b := 2) (lo := 0) (d := xsL a) g2 (Nat.zero_le _) (by omega)
 generalize hS : g.set 2 (intR.row 3 (sortI (xsL a))) = S at *
 have s2 : S[2]? = some (intR.row 3 (sortI (xsL a))) := by rw [← hS, List.getElem?_set_self (get_lt g2)]
 have s0 : S[0]? = some (mapB encI l1) := by rw [← hS, List.getElem?_set_ne (by decide)]; exact g0
 have s1 : S[1]? = some (sideR.row 48 (bdH a)) := by rw [← hS, List.getElem?_set_ne (by decide)]; exact g1
 have sM : MR rectR 39 3 S l1 b1 (fun x => endsX a x) := gM.keep fun o x ho hx => by rw [← hS, List.getElem?_set_ne (by omega)]; exact hx
 obtain ⟨l2, b2, T, cs, tm, tM, told⟩ := cs S
 generalize hm : S.length = m at *
 have hm3 : 3 ≤ m := by have := get_lt s2; omega
 have r1 : ∀ x, aget l1 x ≠ none → 3 ≤ b1 x ∧ b1 x < m := fun x q => by
  cases c : aget l1 x with
  | none => exact absurd c q
  | some v =>
   have := sM.val x v c
   have := get_lt this.2.1
   omega
 have r2 : ∀ x, aget l2 x ≠ none → m + 1 ≤ b2 x := fun x q => by
  cases c : aget l2 x with
  | none => exact absurd c q
  | some v => exact (tM.val x v c).2.2
 obtain ⟨r, co, hr⟩ := compInts (h := T) (b := 2) (lo := 0) (d := sortI (xsL a)) (told _ _ (by omega) s2) (Nat.zero_le _) (by rw [sortI_len]; omega)
 rw [Rg.comp_sort] at co hr
 have e1 : intR.sl 2 (sortI (xsL a)) = intR.sl 2 (xsL a) := int_sl (sortI_len _)
 rw [e1, sortI_len] at co
 rw [sortI_len] at hr
 have ebd : bdL a = bdH a ++ (sortU (xsL a)).flatMap (Rg.colX a) := rfl
 have hnd : ∀ (i j : Nat) (hi : i < (sortU (xsL a)).length) (hj : j < (sortU (xsL a)).length), i < j → (sortU (xsL a))[i] ≠ (sortU (xsL a))[j] := fun i j hi hj hij => by
  have := List.pairwise_iff_getElem.1 (Rg.sortU_asc (xsL a)) i j hi hj hij
  omega
 rw [ebd]
 generalize sortU (xsL a) = ys at *
 generalize hn : (xsL a).length = n at *
 have hyn : ys.length ≤ 400 := by rw [List.length_append] at hr; omega
 have px : ∀ (i : Nat) (hi : i < ys.length), indexAddrT (.sl 3 ⟨some false, some 1⟩) (preS 2 n ys) (.int .i64 (i : Int)) = some (.pointer (some ⟨2, i, some n⟩)) := fun i hi => pre_index hi
 simp -implicitDefEqProofs [k19_5, ret2 (E := E) (f := 14) rfl, ret2 (E := E) (f := 15) rfl, ret2 (E := E) (f := 40) rfl, so, cs, co, pre_len]
 generalize hX : LL _ _ _ _ = X
 obtain ⟨u, g, rfl, gF⟩ := LL_uxk hX (α := Nat × Heap) (U := Unit) (0, T.set 2 (intR.row 3 (ys ++ r))) (fun c => [(3, sideR.sl 1 (bdH a ++ (ys.take c.1).flatMap (Rg.colX a))), (68, .int .i64 (c.1 : Int))]) (fun c => c.2) (.exit 2) (fun _ => [(3, sideR.sl 1 (bdH a ++ ys.flatMap (Rg.colX a))), (68, undef)])
   (fun _ g => g[1]? = some (sideR.row 48 (bdH a ++ ys.flatMap (Rg.colX a))))
   (fun c => c.1 ≤ ys.length ∧ c.2[0]? = some (mapB encI l1) ∧ c.2[m]? = some (mapB encI l2) ∧ c.2[1]? = some (sideR.row 48 (bdH a ++ (ys.take c.1).flatMap (Rg.colX a))) ∧ c.2[2]? = some (intR.row 3 (ys ++ r)) ∧
    ∀ (j : Nat) (hj : j < ys.length), c.1 ≤ j → Q7 (fun x => endsX a x) l1 b1 c.2 ys[j] ∧ Q7 (fun x => begsX a x) l2 b2 c.2 ys[j]) (fun c => ys.length - c.1)
  ⟨Nat.zero_le _, by rw [List.getElem?_set_ne (by decide)]; exact told _ _ (by omega) s0, by rw [List.getElem?_set_ne (by omega)]; exact tm, by rw [List.getElem?_set_ne (by decide)]; simpa using told _ _ (by omega) s1,
   by rw [List.getElem?_set_self (get_lt (told _ _ (by omega) s2))], fun j hj _ => ⟨(sM.q7 ys[j]).keep fun q y hy => by
    have := r1 _ q
    rw [List.getElem?_set_ne (by omega)]; exact told _ _ (by omega) hy, (tM.q7 ys[j]).keep fun q y hy => by
    have := r2 _ q
    rw [List.getElem?_set_ne (by omega)]; exact hy⟩⟩
  (by simp -implicitDefEqProofs [k19_14]) rfl (by
  intro nx c hc ih
  obtain ⟨i, g⟩ := c
  obtain ⟨h1, h2, h3, h4, h5, h6⟩ := hc
  simp only at h1 h2 h3 h4 h5 h6
  by_cases hi : i < ys.length
  ·obtain ⟨q1, q2⟩ := h6 i hi (Nat.le_refl _)
   have et : ys.take (i + 1) = ys.take i ++ [ys[i]] := by rw [List.take_add_one, List.getElem?_eq_getElem hi]; rfl
   have ho := flatMap_le (fun x => colX_len a x ha) (ys.take i)
   have htl : (ys.take i).length ≤ 400 := by rw [List.length_take]; omega
   have hcx := colX_len a ys[i] ha
   have eo : bdH a ++ (ys.take i).flatMap (Rg.colX a) ++ Rg.colX a ys[i] = bdH a ++ (ys.take (i + 1)).flatMap (Rg.colX a) := by rw [et, List.flatMap_append, List.append_assoc]; simp
   have f0 : freezeV E.P depth 0 g (.int .i64 ys[i]) = some (.int .i64 ys[i], g) := frz_set8 rfl rfl
   have lk1 := lookup_get (P := E.P) (h := g) (zv := .slice none 0 0) (k := ys[i]) keyI h2
   have lk2 := lookup_get (P := E.P) (h := g) (zv := .slice none 0 0) (k := ys[i]) keyI h3
   obtain ⟨k1, g1, f1, hk1, hl1, ho1⟩ := row_frz (P := E.P) (R := rectR) (lo := 0) (t := 39) (h := g) (l := l1) (b := b1 ys[i]) (L := endsX a ys[i]) (k := ys[i]) sB a32 (Nat.zero_le _) q1
   have q2' : Q7 (fun x => begsX a x) l2 b2 g1 ys[i] := q2.keep fun q y hy => ho1 _ _ (fun q' => by have := r2 _ q; have := r1 _ q'; omega) hy
   obtain ⟨k2, g2, f2, hk2, hl2, ho2⟩ := row_frz (P := E.P) (R := rectR) (lo := 0) (t := 39) (h := g1) (l := l2) (b := b2 ys[i]) (L := begsX a ys[i]) (k := ys[i]) sB a32 (Nat.zero_le _) q2'
   have fa := frzAll3 f0 f1 f2
   have h7 : (endsX a ys[i]).length ≤ a.length := List.length_filter_le _ _
   have h8 : (begsX a ys[i]).length ≤ a.length := List.length_filter_le _ _
   have us := upright_spec ys[i] k1 k2 (endsX a ys[i]) (begsX a ys[i]) hk1 hk2 (by omega)
   have us : pureCall E.P (L E) 41 [.int .i64 ys[i], rectR.o k1 (endsX a ys[i]), rectR.o k2 (begsX a ys[i])] = some (lst false (sideR.vals (Rg.colX a ys[i]))) := us
   have old : ∀ o x, (aget l1 ys[i] ≠ none → o ≠ b1 ys[i]) → (aget l2 ys[i] ≠ none → o ≠ b2 ys[i]) → g[o]? = some x → g2[o]? = some x := fun o x n1 n2 hx => ho2 o x n2 (ho1 o x n1 hx)
   have w1 := old 1 _ (fun q => by have := r1 _ q; omega) (fun q => by have := r2 _ q; omega) h4
   have ap := Rec.app (R := sideR) (el := elSd) (h := g2) (lo := 0) (m := Rg.colX a ys[i]) (u := lst false (sideR.vals (Rg.colX a ys[i]))) rfl w1 (Rec.cells_tree (R := sideR) rfl _) (Nat.zero_le _) (by show (_ + _) * 32 ≤ 2 ^ 47; rw [List.length_append]; omega)
   rw [eo] at ap
   generalize hG : g2.set 1 (sideR.row 48 (bdH a ++ (ys.take (i + 1)).flatMap (Rg.colX a))) = G at *
   have hGl : G.length = g.length := by rw [← hG, List.length_set]; omega
   have oldG : ∀ o x, o ≠ 1 → (aget l1 ys[i] ≠ none → o ≠ b1 ys[i]) → (aget l2 ys[i] ≠ none → o ≠ b2 ys[i]) → g[o]? = some x → G[o]? = some x := fun o x n0 n1 n2 hx => by
    rw [← hG, List.getElem?_set_ne (by omega)]; exact old o x n1 n2 hx
   have ih := ih (i + 1, G) (by show ys.length - (i + 1) < ys.length - i; omega) ⟨hi, oldG 0 _ (by decide) (fun q => by have := r1 _ q; omega) (fun q => by have := r2 _ q; omega) h2,
    oldG m _ (by omega) (fun q => by have := r1 _ q; omega) (fun q => by have := r2 _ q; omega) h3, by rw [← hG]; exact List.getElem?_set_self (get_lt w1),
    oldG 2 _ (by decide) (fun q => by have := r1 _ q; omega) (fun q => by have := r2 _ q; omega) h5, fun j hj hij => by
     obtain ⟨p1, p2⟩ := h6 j hj (by omega)
     have hne := hnd i j hi hj hij
     refine ⟨p1.keep fun q y hy => oldG _ _ (by have := r1 _ q; omega) (fun q' e => hne (sM.inj _ _ q' q e.symm)) (fun q' => by have := r1 _ q; have := r2 _ q'; omega) hy,
      p2.keep fun q y hy => oldG _ _ (by have := r2 _ q; omega) (fun q' => by have := r2 _ q; have := r1 _ q'; omega) (fun q' e => hne (tM.inj _ _ q' q e.symm)) hy⟩⟩
   have wi : IntKind.i64.wrap ((i : Int) + 1) = ((i + 1 : Nat) : Int) := (wrap64 (by omega) (by omega)).trans (by omega)
   have pxi := px i hi
   have pl := pre_load (h := g) (b := 2) (n := n) (sz := some 1) (e := ys) h5 hr hi
   generalize (aget l1 ys[i]).getD (.slice none 0 0) = u1 at *
   generalize (aget l2 ys[i]).getD (.slice none 0 0) = u2 at *
   unfold elSd at ap
   unfold encI at lk1 lk2
   simp -implicitDefEqProofs [k19_14] at ih
   simp -implicitDefEqProofs [r19_14, k19_14, hi, pre_len, pxi, pl, lk1, lk2, ret4 m41, fa, us, ap, wi, trim_le, hGl]
   exact ih
  ·have e : ys.take i = ys := List.take_of_length_le (by omega)
   refine ⟨(), g, ?_, by rw [e] at h4; exact h4⟩
   simp -implicitDefEqProofs [r19_14, k19_14, hi, e, pre_len, trim_le])
 have rr := Rec.reify_row (R := sideR) (P := E.P) (h := g) (b := 1) (n := 7) (t := 48) (l := bdH a ++ ys.flatMap (Rg.colX a)) gF zS (by kernel_rfl)
 have rr : reifyR E.P g (sideR.sl 1 (bdH a ++ ys.flatMap (Rg.colX a))) = _ := rr
 simp -implicitDefEqProofs [k19_14, rr]
end Go.Proofs.Ytadnganaeigchaa.Bm
