/-
 Chapter 25: the areas of the floors, walked. Conditions: few rooms, of few rectangles.
-/
import Derived.Test.YthkddpgnhaeooaaQT27
import Derived.Test.YthkddpgnhaeooaaQT26
namespace Go.Proofs.Ythkddpgnhaeooaa.Bm
open Go Go.RowKit
open Rg (Rect Lv Bx putL floorsL heightsB basesB sortU areaL)
def slV : Except Int (List Lv) → Value
 | .error e => .tuple ⟨[.slice none 0 0, .int .i64 e]⟩
 | .ok o => .tuple ⟨[lst false (lvR.vals o), .int .i64 0]⟩
theorem fits_sol (o : List Lv) : pureCall E.P (L E) 34 [lst false (lvR.vals o)] = some (slV (fitX o)) := by
 have ln : ∀ h, lenT .sl h (lst false (lvR.vals o)) = some (.int .i64 o.length) := fun h => Rec.tree_len
 rw [pureCall_fn F34 rfl]
 unfold fitX
 by_cases h : 80 < o.length
 ·have h' : 80 < (o.length : Int) := by omega
  simp -implicitDefEqProofs [r34, p34, ln, h, h', slV]
 ·have h' : ¬ 80 < (o.length : Int) := by omega
  simp -implicitDefEqProofs [r34, p34, ln, h, h', slV]
def solidP (l : List Bx) : List Lv → List Int → Int × List Lv
 | o, a :: b :: zs => match ofR (basesB l a b) with
  | .error e => (e, o)
  | .ok A => solidP l (putL o ⟨a, b, A⟩) (b :: zs)
 | o, _ => (0, o)
theorem ofR_err {l : List Rect} {e : Int} (h : ofR l = .error e) : e ≠ 0 := by
 unfold ofR at h
 split at h
 ·split at h
  ·cases h; decide
  ·split at h
   ·cases h
   ·cases h; decide
 ·cases h; decide
theorem ofR_len {l A : List Rect} (h : ofR l = .ok A) : A.length ≤ 200 := by
 unfold ofR at h
 split at h
 ·split at h
  ·cases h
  ·split at h
   ·cases h; assumption
   ·cases h
 ·cases h
theorem solidF_P (l : List Bx) : ∀ (zs : List Int) (o : List Lv), solidF l o zs = if (solidP l o zs).1 = 0 then .ok (solidP l o zs).2 else .error (solidP l o zs).1
 | [], o => rfl
 | [_], o => rfl
 | a :: b :: zs, o => by
  unfold solidF solidP
  cases h : ofR (basesB l a b) with
  | error e => simp only; rw [if_neg (ofR_err h)]
  | ok A => exact solidF_P l (b :: zs) _
theorem put_len (o : List Lv) (x : Lv) : (putL o x).length ≤ o.length + 1 := by
 unfold putL
 split
 ·omega
 ·split
  ·simp
  ·split
   ·simp
   ·simp
theorem put_ar (o : List Lv) (x : Lv) : ∀ y ∈ putL o x, y.ar = x.ar ∨ ∃ z ∈ o, y.ar = z.ar := by
 unfold putL
 split
 ·exact fun y hy => .inr ⟨y, hy, rfl⟩
 ·split
  ·exact fun y hy => .inl (by rw [List.mem_singleton.1 hy])
  ·rename_i w hw
   split
   ·rename_i q
    intro y hy
    rcases List.mem_append.1 hy with p | p
    ·exact .inr ⟨y, List.dropLast_subset _ p, rfl⟩
    ·rw [List.mem_singleton.1 p]; exact .inl q.2
   ·intro y hy
    rcases List.mem_append.1 hy with p | p
    ·exact .inr ⟨y, p, rfl⟩
    ·rw [List.mem_singleton.1 p]; exact .inl rfl
def hitU (u v : Int) (b : Bx) : Bool := decide (b.lo < v) && decide (u < b.hi)
theorem hitU_iff {u v : Int} {b : Bx} : hitU u v b = true ↔ b.lo < v ∧ u < b.hi := by
 unfold hitU
 rw [Bool.and_eq_true, decide_eq_true_eq, decide_eq_true_eq]
def hbF (b : Bx) : Int × Int := (b.lo, b.hi)
def hbL (c : List (Int × Int)) (rest : List Bx) : List (Int × Int) := c ++ (rest.takeWhile okX).map hbF
theorem takeWhile_all {α : Type} {p : α → Bool} : ∀ {l : List α}, l.all p = true → l.takeWhile p = l
 | [], _ => rfl
 | a :: l, h => by
  rw [List.all_cons, Bool.and_eq_true] at h
  rw [List.takeWhile_cons, if_pos h.1, takeWhile_all h.2]
theorem b3_two {a b : Int} : buildT (Bl.fs ⟨[.int .i64 0, .int .i64 0, .slice none 0 0]⟩ ⟨[(0, 1), (1, 1), (2, 1)]⟩) #[(0, .int .i64 a), (1, .int .i64 b)] = some (.agg ⟨[.int .i64 a, .int .i64 b, .slice none 0 0]⟩) := rfl
theorem lit_hs (h : Heap) (a b : Int) : buildSliceT (some ⟨83, 3, 40, .agg ⟨[.int .i64 0, .int .i64 0, .slice none 0 0]⟩, ⟨some true, some 3⟩⟩) false h 1 #[(0, .agg ⟨[.int .i64 a, .int .i64 b, .slice none 0 0]⟩)] = some (lst true [.agg ⟨[.int .i64 a, .int .i64 b, .slice none 0 0]⟩], h) :=
 (build_lit' (n := 1) (l := [(0, .agg ⟨[.int .i64 a, .int .i64 b, .slice none 0 0]⟩)]) rfl rfl (by decide) (by decide) (by decide)).trans rfl
theorem app_hs {h : Heap} {b lo : Nat} {c : List (Int × Int)} (x : Int × Int) (hob : h[b]? = some (hsR.row 83 c)) (hlo : lo ≤ b) (hc : c.length ≤ 1000000000) :
  appendT (some ⟨83, 3, 40, .agg ⟨[.int .i64 0, .int .i64 0, .slice none 0 0]⟩, ⟨some true, some 3⟩⟩) h lo false (hsR.sl b c) (lst true [.agg ⟨[.int .i64 x.1, .int .i64 x.2, .slice none 0 0]⟩]) = some (hsR.sl b (c ++ [x]), h.set b (hsR.row 83 (c ++ [x]))) :=
 Rec.app (R := hsR) (m := [x]) rfl hob (Rec.cells_tree (R := hsR) rfl [x]) hlo (by show (c.length + 1) * 40 ≤ 2 ^ 47; omega)
set_option maxHeartbeats 2000000 in
theorem solid_spec (x : Bool) (l : List Bx) (hl : l.length ≤ 1000000) : pureCall E.P (L E) 10 [lst x (bxR.vals l)] = some (slV (solidX l)) := by
 have ln : ∀ h, lenT .sl h (lst x (bxR.vals l)) = some (.int .i64 l.length) := fun h => Rec.tree_len
 have ix : ∀ (j : Nat) (hj : j < l.length), indexAddrT (.sl 43 ⟨some true, some 6⟩) (lst x (bxR.vals l)) (.int .i64 (j : Int)) = some (cptr (bxR.val l[j])) := fun j hj => Rec.index_tree rfl hj
 have bL : ∀ d n, below (d + 1) n (lst x (bxR.vals l)) = true := fun d n => rfl
 rw [pureCall_fn F10 rfl]
 generalize hVL : lst x (bxR.vals l) = VL at *
 simp -implicitDefEqProofs [r10, p10, prep_new, newK_nil sSl, ln]
 rw [LL_for (γ := List (Int × Int)) l [] (fun i c => [(4, hsR.sl 0 c), (17, .int .i64 (i : Int))]) (fun _ c => [hsR.row 83 c])
  (fun _ rest c => if rest.all okX = true then (.exit 0, [(4, hsR.sl 0 (hbL c rest)), (17, undef)], [hsR.row 83 (hbL c rest)]) else (.ret, [(2, .slice none 0 0), (3, .int .i64 1), (4, hsR.sl 0 (hbL c rest)), (17, undef)], [hsR.row 83 (hbL c rest)])) (fun i c => c.length = i) (by omega) rfl]
 ·unfold solidX
  cases hall : l.all okX
  ·simp -implicitDefEqProofs [k10_3, slV]
  by_cases h200 : 200 < l.length
  ·have h200' : 200 < (l.length : Int) := by omega
   simp -implicitDefEqProofs [k10_3, slV, ln, h200, h200']
  have h200' : ¬ 200 < (l.length : Int) := by omega
  have eA : hbL [] l = l.map hbF := by
   unfold hbL
   rw [List.nil_append, takeWhile_all hall]
  rw [eA]
  have hal : (l.map hbF).length = l.length := List.length_map _
  have fz := Rec.freeze_row (R := hsR) (P := E.P) (h := [hsR.row 83 (l.map hbF)]) (lo := 0) (b := 0) (t := 83) (l := l.map hbF) rfl sSl aSl (Nat.le_refl _)
  obtain ⟨A0, hA0, bA0⟩ : ∃ A0, (if (l.map hbF).length = 0 then [hsR.row 83 (l.map hbF)] else [hsR.row 83 (l.map hbF)].set 0 .dead) = [A0] ∧ ∀ n, belowO n A0 = true := by
   by_cases q : (l.map hbF).length = 0
   ·exact ⟨_, if_pos q, fun n => Rec.row_bel _⟩
   ·exact ⟨.dead, if_neg q, fun n => rfl⟩
  rw [hA0] at fz
  have hs := heights_spec hsR (fun x => x) (fun _ => .slice none 0 0) rfl (fun _ => rfl) [l.map hbF] (fun m hm => by rw [List.mem_singleton.1 hm]; omega) (by simp)
  have eH : sortU (zsA (fun x => x) [l.map hbF]) = heightsB l := by
   unfold heightsB zsA zsL hbF
   simp [List.flatMap_map]
  rw [eH] at hs
  have litA : ∀ h, buildSliceT (some ⟨44, 1, 24, .slice none 0 0, ⟨some false, some 1⟩⟩) false h 1 #[(0, lst false (hsR.vals (l.map hbF)))] = some (lst true ((lsE hsR).vals [l.map hbF]), h) := fun h => (build_lit' (n := 1) (l := [(0, lst false (hsR.vals (l.map hbF)))]) rfl rfl (by decide) (by decide) (by decide)).trans rfl
  have sA : settled depth (lst true ((lsE hsR).vals [l.map hbF])) = true := rfl
  have lz : ∀ h, lenT .sl h (lst false (intE.vals (heightsB l))) = some (.int .i64 (heightsB l).length) := fun h => by rw [len_lst, Enc.vals_len]
  have iz : ∀ (j : Nat) (hj : j < (heightsB l).length), indexAddrT (.sl 3 ⟨some false, some 1⟩) (lst false (intE.vals (heightsB l))) (.int .i64 (j : Int)) = some (cptr (.int .i64 (heightsB l)[j])) := fun j hj => Enc.index_tree hj
  have bZ : ∀ d n, below (d + 1) n (lst false (intE.vals (heightsB l))) = true := fun d n => rfl
  have bVA : ∀ d n, below (d + 1) n (lst false (hsR.vals (l.map hbF))) = true := fun d n => rfl
  have bVB : ∀ d n, below (d + 1) n (lst true ((lsE hsR).vals [l.map hbF])) = true := fun d n => rfl
  clear hA0
  generalize lst false (hsR.vals (l.map hbF)) = VA at *
  generalize lst true ((lsE hsR).vals [l.map hbF]) = VAA at *
  generalize lst false (intE.vals (heightsB l)) = VZ at *
  simp -implicitDefEqProofs [k10_3, slV, ln, h200, h200', prep_frz, fz, litA, ret1 m31, sA, hs, prep_new, newK_nil sSl]
  have hZl : (heightsB l).length ≤ 400 := by
   have h1 := sortU_len (l.flatMap fun b => [b.lo, b.hi])
   have h2 := zsL_len hbF l
   have h3 : zsL hbF l = l.flatMap fun b => [b.lo, b.hi] := rfl
   rw [h3] at h2
   unfold heightsB
   omega
  rw [solidF_P]
  generalize heightsB l = Z at *
  rw [LL_rec (α := Nat × List Lv) (0, []) (fun c => [(8, lvR.sl 1 c.2), (9, .int .i64 ((c.1 : Int) + 1))]) (fun c => [A0, lvR.row 83 c.2])
   (fun c => if (solidP l c.2 (Z.drop c.1)).1 = 0 then (.exit 2, [(8, lvR.sl 1 (solidP l c.2 (Z.drop c.1)).2), (9, undef)], [A0, lvR.row 83 (solidP l c.2 (Z.drop c.1)).2]) else (.ret, [(2, .slice none 0 0), (3, .int .i64 (solidP l c.2 (Z.drop c.1)).1), (8, lvR.sl 1 (solidP l c.2 (Z.drop c.1)).2), (9, undef)], [A0, lvR.row 83 (solidP l c.2 (Z.drop c.1)).2]))
   (fun c => c.1 ≤ Z.length ∧ c.2.length ≤ c.1 ∧ ∀ y ∈ c.2, y.ar.length ≤ 200) (fun c => Z.length - c.1)]
  ·rw [List.drop_zero]
   generalize solidP l [] Z = q at *
   obtain ⟨e, o⟩ := q
   simp only
   by_cases he : e = 0
   ·have fo := Rec.freeze_row (R := lvR) (P := E.P) (h := [A0, lvR.row 83 o]) (lo := 0) (b := 1) (t := 83) (l := o) rfl sSl aSl (Nat.zero_le _)
    have ff := fits_sol o
    generalize lst false (lvR.vals o) = VO at *
    unfold slV at ff
    cases hfo : fitX o with
    | error e =>
     rw [hfo] at ff
     simp -implicitDefEqProofs [k10_14, he, ret4 m34, frzAll_row fo, ff, hfo]
    | ok o2 =>
     rw [hfo] at ff
     simp -implicitDefEqProofs [k10_14, he, ret4 m34, frzAll_row fo, ff, hfo]
   ·simp -implicitDefEqProofs [k10_14, he]
  ·exact ⟨Nat.zero_le _, Nat.zero_le _, fun y hy => absurd hy List.not_mem_nil⟩
  ·simp -implicitDefEqProofs [k10_14, Rec.sl_nil]
  ·rfl
  ·intro nx c hc ih
   obtain ⟨m, o⟩ := c
   obtain ⟨h1, h2, h3⟩ := hc
   simp only at h1 h2 h3 ih ⊢
   by_cases hm : m + 1 < Z.length
   ·have hm0 : m < Z.length := by omega
    have hm' : (m : Int) + 1 < (Z.length : Int) := by omega
    have xz0 := iz m hm0
    have xz1 : indexAddrT (.sl 3 ⟨some false, some 1⟩) VZ (.int .i64 ((m : Int) + 1)) = some (cptr (.int .i64 Z[m + 1])) := by
     have := iz (m + 1) hm
     push_cast at this; exact this
    have w0 : IntKind.i64.wrap (m : Int) = m := wrap64 (by omega) (by omega)
    have w2 : IntKind.i64.wrap ((m : Int) + 1 + 1) = (m : Int) + 1 + 1 := wrap64 (by omega) (by omega)
    have hd : Z.drop m = Z[m] :: Z[m + 1] :: Z.drop (m + 2) := by rw [List.drop_eq_getElem_cons hm0, List.drop_eq_getElem_cons hm]
    have hd2 : Z.drop (m + 1) = Z[m + 1] :: Z.drop (m + 2) := List.drop_eq_getElem_cons hm
    have eP : solidP l o (Z.drop m) = match ofR (basesB l Z[m] Z[m + 1]) with | .error e => (e, o) | .ok A => solidP l (putL o ⟨Z[m], Z[m + 1], A⟩) (Z.drop (m + 1)) := by rw [hd, hd2]; rfl
    have eB : basesB l Z[m] Z[m + 1] = (l.filter (hitU Z[m] Z[m + 1])).map Bx.b := rfl
    have hBl : ((l.filter (hitU Z[m] Z[m + 1])).map Bx.b).length ≤ 200 := by
     rw [List.length_map]
     exact Nat.le_trans (List.length_filter_le _ _) (by omega)
    rw [eB] at eP
    rw [eP]
    generalize Z[m] = u at *
    generalize Z[m + 1] = v at *
    clear hd hd2 eP eB
    simp -implicitDefEqProofs [r10_14, k10_14, lz, hm', prep_new, newK_nil s32, ln]
    rw [LL_for (γ := List Rect) l [] (fun j c => [(10, rectR.sl 2 c), (65, .int .i64 (j : Int))]) (fun _ c => [A0, lvR.row 83 o, rectR.row 41 c])
     (fun _ rest c => (.exit 4, [(10, rectR.sl 2 (c ++ (rest.filter (hitU u v)).map Bx.b)), (65, undef)], [A0, lvR.row 83 o, rectR.row 41 (c ++ (rest.filter (hitU u v)).map Bx.b)])) (fun j c => c.length ≤ j) (by omega) (Nat.le_refl _)]
    ·rw [List.nil_append]
     generalize (l.filter (hitU u v)).map Bx.b = B at *
     have fz2 := Rec.freeze_row (R := rectR) (P := E.P) (h := [A0, lvR.row 83 o, rectR.row 41 B]) (lo := 0) (b := 2) (t := 41) (l := B) rfl s32 a32 (Nat.zero_le _)
     obtain ⟨X, hX, bX⟩ : ∃ X, (if B.length = 0 then [A0, lvR.row 83 o, rectR.row 41 B] else [A0, lvR.row 83 o, rectR.row 41 B].set 2 .dead) = [A0, lvR.row 83 o, X] ∧ ∀ n, belowO n X = true := by
      by_cases q : B.length = 0
      ·exact ⟨_, if_pos q, fun n => Rec.row_bel _⟩
      ·exact ⟨.dead, if_neg q, fun n => rfl⟩
     rw [hX] at fz2
     have hof := of_spec (some false) B Rec.ok_some (by omega)
     change pureCall _ _ _ [lst false (rectR.vals B)] = _ at hof
     cases hA : ofR B with
     | error e =>
      have he : ¬ e = 0 := ofR_err hA
      rw [hA] at hof
      unfold resL at hof
      simp only at hof ⊢
      rw [if_neg he]
      simp -implicitDefEqProofs [k10_18, k10_14, ret4 m32, frzAll_row fz2, hof, he, trim_cut, bA0, Rec.sl_bel, Rec.row_bel, bL, bZ, bVA, bVB]
     | ok A =>
      have hAl := ofR_len hA
      rw [hA] at hof
      unfold resL at hof
      simp only at hof ⊢
      have ih := ih (m + 1, putL o ⟨u, v, A⟩) (by show Z.length - (m + 1) < Z.length - m; omega) ⟨by show m + 1 ≤ Z.length; omega, by show (putL o ⟨u, v, A⟩).length ≤ m + 1; have := put_len o ⟨u, v, A⟩; omega, fun y hy => by
       rcases put_ar o ⟨u, v, A⟩ y hy with q | ⟨z, hz, q⟩
       ·rw [q]; exact hAl
       ·rw [q]; exact h3 z hz⟩
      have pt := put_spec [A0, lvR.row 83 o, X] 1 0 o ⟨u, v, A⟩ rfl (Nat.zero_le _) (by omega) (fun y hy => by have := h3 y hy; omega) (by simp only [List.all_cons, List.all_nil, Bool.and_true, bA0, bX, Rec.row_bel])
      change retCall _ _ _ _ _ [lvR.sl 1 o, .agg ⟨[.int .i64 u, .int .i64 v, lst false (rectR.vals A)]⟩] _ = some (_, [A0, lvR.row 83 (putL o ⟨u, v, A⟩), X]) at pt
      have bl3 : buildT (Bl.fs ⟨[.int .i64 0, .int .i64 0, .slice none 0 0]⟩ ⟨[(0, 1), (1, 1), (2, 1)]⟩) #[(0, .int .i64 u), (1, .int .i64 v), (2, lst false (rectR.vals A))] = some (.agg ⟨[.int .i64 u, .int .i64 v, lst false (rectR.vals A)]⟩) := rfl
      have bVR : ∀ d n, below (d + 1) n (lst false (rectR.vals A)) = true := fun d n => rfl
      simp only at ih
      push_cast at ih
      generalize lst false (rectR.vals A) = VR at *
      generalize putL o ⟨u, v, A⟩ = o2 at *
      generalize solidP l o2 (Z.drop (m + 1)) = q at *
      obtain ⟨e, o3⟩ := q
      simp only at ih ⊢
      by_cases he : e = 0
      ·rw [if_pos he] at ih ⊢
       simp -implicitDefEqProofs [k10_14] at ih
       simp -implicitDefEqProofs [k10_18, k10_14, ret4 m32, frzAll_row fz2, hof, xz0, xz1, w0, w2, bl3, pt, trim_cut, bA0, Rec.sl_bel, Rec.row_bel, bL, bZ, bVA, bVB, bVR]
       exact ih
      ·rw [if_neg he] at ih ⊢
       simp -implicitDefEqProofs [k10_14] at ih
       simp -implicitDefEqProofs [k10_18, k10_14, ret4 m32, frzAll_row fz2, hof, xz0, xz1, w0, w2, bl3, pt, trim_cut, bA0, Rec.sl_bel, Rec.row_bel, bL, bZ, bVA, bVB, bVR]
       exact ih
    ·simp -implicitDefEqProofs [k10_18, Rec.sl_nil]
    ·rfl
    ·intro nx j c hj _
     simp -implicitDefEqProofs [r10_18, k10_18, ln, hj, trim_le]
    ·intro nx j b rest c hj hv hd hw hc ih
     have xj := ix j hj
     rw [hv, bx_val] at xj
     by_cases q1 : b.lo < v
     ·by_cases q2 : u < b.hi
      ·have ap := fun O => app_rect (h := [A0, lvR.row 83 o, rectR.row 41 c, O]) (b := 2) (lo := 0) (c := c) b.b rfl (Nat.zero_le _) (by omega)
       have ih := ih (c ++ [b.b]) (by simp; omega)
       rw [List.filter_cons_of_pos (hitU_iff.2 ⟨q1, q2⟩), List.map_cons, show c ++ b.b :: (rest.filter (hitU u v)).map Bx.b = c ++ [b.b] ++ (rest.filter (hitU u v)).map Bx.b by rw [List.append_assoc]; rfl]
       simp -implicitDefEqProofs [k10_18, -List.append_assoc] at ih
       simp -implicitDefEqProofs [r10_18, k10_18, ln, hj, xj, xz0, xz1, w0, q1, q2, lit_rect, ap, hw, trim_cut, bA0, Rec.sl_bel, Rec.row_bel, bL, bZ, bVA, bVB, -List.append_assoc]
       exact ih
      ·have ih := ih c (by omega)
       rw [List.filter_cons_of_neg (by rw [hitU_iff]; omega)]
       simp -implicitDefEqProofs [k10_18, -List.append_assoc] at ih
       simp -implicitDefEqProofs [r10_18, k10_18, ln, hj, xj, xz0, xz1, w0, q1, q2, hw, trim_cut, bA0, Rec.sl_bel, Rec.row_bel, bL, bZ, bVA, bVB, -List.append_assoc]
       exact ih
     ·have ih := ih c (by omega)
      rw [List.filter_cons_of_neg (by rw [hitU_iff]; omega)]
      simp -implicitDefEqProofs [k10_18, -List.append_assoc] at ih
      simp -implicitDefEqProofs [r10_18, k10_18, ln, hj, xj, xz0, xz1, w0, q1, hw, trim_cut, bA0, Rec.sl_bel, Rec.row_bel, bL, bZ, bVA, bVB, -List.append_assoc]
      exact ih
   ·have hm' : ¬ ((m : Int) + 1 < (Z.length : Int)) := by omega
    have e : solidP l o (Z.drop m) = (0, o) := by
     have hl : (Z.drop m).length ≤ 1 := by rw [List.length_drop]; omega
     match Z.drop m, hl with
     | [], _ => rfl
     | [_], _ => rfl
    rw [e]
    simp -implicitDefEqProofs [r10_14, k10_14, lz, hm', trim_le]
 ·simp -implicitDefEqProofs [k10_3, Rec.sl_nil]
 ·rfl
 ·intro nx i c hi _
  simp -implicitDefEqProofs [r10_3, k10_3, ln, hi, trim_le, hbL]
 ·intro nx i b rest c hi hv hd hw hc ih
  have xi := ix i hi
  rw [hv, bx_val] at xi
  have hr := right_s b.b
  have ap := fun o => app_hs (h := [hsR.row 83 c, o]) (b := 0) (lo := 0) (c := c) (b.lo, b.hi) rfl (Nat.le_refl _) (by omega)
  simp only at ap
  have eL : hbL c (b :: rest) = if okX b = true then hbL (c ++ [(b.lo, b.hi)]) rest else c := by
   unfold hbL
   rw [List.takeWhile_cons]
   cases okX b
   ·simp
   ·simp [hbF]
  rw [List.all_cons, eL, show okX b = (okR b.b && (decide (0 ≤ b.lo) && (decide (b.lo < b.hi) && decide (b.hi ≤ 4096)))) from rfl]
  cases h0 : okR b.b
  ·rw [h0] at hr
   simp -implicitDefEqProofs [r10_3, k10_3, ln, hi, xi, ret0 m30, hr, trim_cut, Rec.sl_bel, Rec.row_bel, bL]
  rw [h0] at hr
  by_cases h1 : b.lo < 0
  ·have h1' : ¬ (0 ≤ b.lo) := by omega
   simp -implicitDefEqProofs [r10_3, k10_3, ln, hi, xi, ret0 m30, hr, h1, h1', trim_cut, Rec.sl_bel, Rec.row_bel, bL]
  have h1' : 0 ≤ b.lo := by omega
  by_cases h2 : b.hi ≤ b.lo
  ·have h2' : ¬ (b.lo < b.hi) := by omega
   simp -implicitDefEqProofs [r10_3, k10_3, ln, hi, xi, ret0 m30, hr, h1, h1', h2, h2', trim_cut, Rec.sl_bel, Rec.row_bel, bL]
  have h2' : b.lo < b.hi := by omega
  by_cases h3 : 4096 < b.hi
  ·have h3' : ¬ (b.hi ≤ 4096) := by omega
   simp -implicitDefEqProofs [r10_3, k10_3, ln, hi, xi, ret0 m30, hr, h1, h1', h2, h2', h3, h3', trim_cut, Rec.sl_bel, Rec.row_bel, bL]
  have h3' : b.hi ≤ 4096 := by omega
  have hcond : (true && (decide (0 ≤ b.lo) && (decide (b.lo < b.hi) && decide (b.hi ≤ 4096)))) = true := by rw [decide_eq_true h1', decide_eq_true h2', decide_eq_true h3']; rfl
  rw [hcond, if_pos rfl, Bool.true_and]
  have ih := ih (c ++ [(b.lo, b.hi)]) (by simp; omega)
  generalize rest.all okX = g at ih ⊢
  generalize hbL (c ++ [(b.lo, b.hi)]) rest = F at *
  cases g <;>
  ·simp -implicitDefEqProofs [k10_3, -List.append_assoc] at ih
   simp -implicitDefEqProofs [r10_3, k10_3, ln, hi, xi, ret0 m30, hr, h1, h1', h2, h2', h3, h3', b3_two, lit_hs, ap, hw, trim_cut, Rec.sl_bel, Rec.row_bel, bL, -List.append_assoc]
   exact ih
open Rg (Rect Lv Bx putL floorsL heightsB basesB sortU areaL atL volL)
def prevS (p : Option Lv) (x : Lv) : Bool := match p with | none => true | some y => nextS y x
theorem runS_cons (p : Option Lv) (x : Lv) (o : List Lv) : runS p (x :: o) = (oneS x && (prevS p x && runS (some x) o)) := by cases p <;> rfl
set_option maxHeartbeats 1000000 in
theorem right_sol (k : Bool) (s : List Lv) (hs : ∀ y ∈ s, y.ar.length ≤ 1000000) (hl : s.length ≤ 1000000) : pureCall E.P (L E) 35 [lst k (lvR.vals s)] = some (.bool (rightS s)) := by
 have ln : ∀ h, lenT .sl h (lst k (lvR.vals s)) = some (.int .i64 s.length) := fun h => Rec.tree_len
 have ix : ∀ (j : Nat) (hj : j < s.length), indexAddrT (.sl 83 ⟨some true, some 3⟩) (lst k (lvR.vals s)) (.int .i64 (j : Int)) = some (cptr (lvR.val s[j])) := fun j hj => Rec.index_tree rfl hj
 have bL : ∀ d n, below (d + 1) n (lst k (lvR.vals s)) = true := fun d n => rfl
 rw [pureCall_fn F35 rfl]
 generalize hVL : lst k (lvR.vals s) = VL at *
 unfold rightS
 by_cases h80 : 80 < s.length
 ·have h80' : 80 < (s.length : Int) := by omega
  rw [decide_eq_false (by omega), Bool.false_and]
  simp -implicitDefEqProofs [r35, p35, ln, h80']
 have h80' : ¬ 80 < (s.length : Int) := by omega
 rw [decide_eq_true (by omega), Bool.true_and]
 simp -implicitDefEqProofs [r35, p35, ln, h80']
 rw [LL_for (γ := Option Lv) s none (fun i _ => [(11, .int .i64 (i : Int))]) (fun _ _ => [])
  (fun _ rest p => if runS p rest = true then (.exit 0, [(11, undef)], []) else (.ret, [(2, .bool false), (11, undef)], [])) (fun i p => p = match i with | 0 => none | j + 1 => s[j]?) (by omega) rfl]
 ·cases hr : runS none s
  ·simp -implicitDefEqProofs [k35_4]
  ·simp -implicitDefEqProofs [k35_4]
 ·simp -implicitDefEqProofs [k35_4]
 ·rfl
 ·intro nx i p hi _
  simp -implicitDefEqProofs [r35_4, k35_4, ln, hi, trim_le, runS]
 ·intro nx i x rest p hi hv hd hw hp ih
  have xi := ix i hi
  rw [hv, lv_val] at xi
  have hxl := hs x (by rw [← hv]; exact List.getElem_mem hi)
  have lx : ∀ h, lenT .sl h (lst false (rectR.vals x.ar)) = some (.int .i64 x.ar.length) := fun h => Rec.tree_len
  have rx : ∀ h, reify E.P 8 h (lst false (rectR.vals x.ar)) = some (lst false (rectR.vals x.ar)) := fun _ => rfl
  have bx : ∀ d n, below (d + 1) n (lst false (rectR.vals x.ar)) = true := fun d n => rfl
  have rr := right2_spec (some false) x.ar Rec.ok_some hxl
  change pureCall _ _ _ [lst false (rectR.vals x.ar)] = _ at rr
  have ih := ih (some x) (by show some x = s[i]?; rw [List.getElem?_eq_getElem hi, hv])
  have eR := runS_cons p x rest
  have eO : oneS x = (decide (0 ≤ x.lo) && (decide (x.lo < x.hi) && (decide (x.hi ≤ 4096) && (decide (x.ar ≠ []) && regB x.ar)))) := rfl
  by_cases q1 : x.lo < 0
  ·rw [eR, eO, decide_eq_false (show ¬ 0 ≤ x.lo by omega), Bool.false_and, Bool.false_and, if_neg (by decide)]
   generalize lst false (rectR.vals x.ar) = VX at *
   simp -implicitDefEqProofs [r35_4, k35_4, ln, hi, xi, q1, lx, trim_cut, bL]
  by_cases q2 : x.hi ≤ x.lo
  ·rw [eR, eO, decide_eq_false (show ¬ x.lo < x.hi by omega), Bool.false_and, Bool.and_false, Bool.false_and, if_neg (by decide)]
   generalize lst false (rectR.vals x.ar) = VX at *
   simp -implicitDefEqProofs [r35_4, k35_4, ln, hi, xi, q1, q2, lx, trim_cut, bL]
  by_cases q3 : 4096 < x.hi
  ·rw [eR, eO, decide_eq_false (show ¬ x.hi ≤ 4096 by omega), Bool.false_and, Bool.and_false, Bool.and_false, Bool.false_and, if_neg (by decide)]
   generalize lst false (rectR.vals x.ar) = VX at *
   simp -implicitDefEqProofs [r35_4, k35_4, ln, hi, xi, q1, q2, q3, lx, trim_cut, bL]
  by_cases q4 : x.ar = []
  ·rw [eR, eO, decide_eq_false (show ¬ x.ar ≠ [] by simp [q4]), Bool.false_and, Bool.and_false, Bool.and_false, Bool.and_false, Bool.false_and, if_neg (by decide)]
   generalize lst false (rectR.vals x.ar) = VX at *
   simp -implicitDefEqProofs [r35_4, k35_4, ln, hi, xi, q1, q2, q3, q4, lx, trim_cut, bL]
  cases q5 : regB x.ar
  ·rw [eR, eO, q5, Bool.and_false, Bool.and_false, Bool.and_false, Bool.and_false, Bool.false_and, if_neg (by decide)]
   rw [q5] at rr
   generalize lst false (rectR.vals x.ar) = VX at *
   simp -implicitDefEqProofs [r35_4, k35_4, ln, hi, xi, q1, q2, q3, q4, lx, rx, ret0 m40, rr, trim_cut, bL]
  rw [q5] at rr
  rw [eR, eO, q5, decide_eq_true (show 0 ≤ x.lo by omega), decide_eq_true (show x.lo < x.hi by omega), decide_eq_true (show x.hi ≤ 4096 by omega), decide_eq_true q4, Bool.true_and, Bool.true_and, Bool.true_and, Bool.true_and, Bool.true_and]
  cases i with
  | zero =>
   have hp : p = none := hp
   subst hp
   rw [show prevS none x = true from rfl, Bool.true_and]
   have xi0 : indexAddrT (.sl 83 ⟨some true, some 3⟩) VL (.int .i64 0) = some (cptr (.agg ⟨[.int .i64 x.lo, .int .i64 x.hi, lst false (rectR.vals x.ar)]⟩)) := xi
   clear hv hd xi
   generalize runS (some x) rest = g at ih ⊢
   generalize lst false (rectR.vals x.ar) = VX at *
   cases g <;>
   ·simp -implicitDefEqProofs [k35_4] at ih
    simp -implicitDefEqProofs [r35_4, k35_4, ln, hi, xi0, q1, q2, q3, q4, lx, rx, ret0 m40, rr, hw, trim_cut, bL, bx]
    exact ih
  | succ m =>
   have hm : m < s.length := by omega
   have hp : p = some s[m] := by
    have hp : p = s[m]? := hp
    rw [hp, List.getElem?_eq_getElem hm]
   subst hp
   have xm := ix m hm
   rw [lv_val] at xm
   have hyl := hs s[m] (List.getElem_mem hm)
   generalize s[m] = y at *
   have sm := same_spec (some false) (some false) y.ar x.ar Rec.ok_some Rec.ok_some hyl
   have ry : ∀ h, reify E.P 8 h (lst false (rectR.vals y.ar)) = some (lst false (rectR.vals y.ar)) := fun _ => rfl
   have bY : ∀ d n, below (d + 1) n (lst false (rectR.vals y.ar)) = true := fun d n => rfl
   change pureCall _ _ _ [lst false (rectR.vals y.ar), lst false (rectR.vals x.ar)] = _ at sm
   have eN : nextS y x = (decide (y.hi ≤ x.lo) && !(decide (y.hi = x.lo) && decide (y.ar = x.ar))) := rfl
   have hi1 : ((m : Int) + 1 < (s.length : Int)) := by omega
   have xi1 : indexAddrT (.sl 83 ⟨some true, some 3⟩) VL (.int .i64 ((m : Int) + 1)) = some (cptr (.agg ⟨[.int .i64 x.lo, .int .i64 x.hi, lst false (rectR.vals x.ar)]⟩)) := by
    have := xi
    push_cast at this; exact this
   have wm : IntKind.i64.wrap (m : Int) = m := wrap64 (by omega) (by omega)
   have w2 : IntKind.i64.wrap ((m : Int) + 1 + 1) = (m : Int) + 1 + 1 := wrap64 (by omega) (by omega)
   have n0 : ¬ ((m : Int) + 1 = 0) := by omega
   rw [show prevS (some y) x = nextS y x from rfl, eN]
   clear hv hd xi
   push_cast at ih
   generalize runS (some x) rest = g at ih ⊢
   by_cases p1 : x.lo < y.hi
   ·rw [decide_eq_false (show ¬ y.hi ≤ x.lo by omega), Bool.false_and, Bool.false_and, if_neg (by decide)]
    generalize lst false (rectR.vals x.ar) = VX at *
    generalize lst false (rectR.vals y.ar) = VY at *
    simp -implicitDefEqProofs [r35_4, k35_4, ln, hi1, xi1, xm, wm, w2, n0, q1, q2, q3, q4, lx, rx, ret0 m40, rr, p1, trim_cut, bL, bx]
   rw [decide_eq_true (show y.hi ≤ x.lo by omega), Bool.true_and]
   by_cases p2 : y.hi = x.lo
   ·rw [decide_eq_true p2, Bool.true_and]
    generalize decide (y.ar = x.ar) = d at sm ⊢
    generalize lst false (rectR.vals x.ar) = VX at *
    generalize lst false (rectR.vals y.ar) = VY at *
    cases d
    ·cases g <;>
     ·simp -implicitDefEqProofs [k35_4] at ih
      simp -implicitDefEqProofs [r35_4, k35_4, ln, hi1, xi1, xm, wm, w2, n0, q1, q2, q3, q4, lx, rx, ry, ret0 m40, ret0 m55, rr, sm, p1, p2, hw, trim_cut, bL, bx, bY]
      exact ih
    ·simp -implicitDefEqProofs [r35_4, k35_4, ln, hi1, xi1, xm, wm, w2, n0, q1, q2, q3, q4, lx, rx, ry, ret0 m40, ret0 m55, rr, sm, p1, p2, trim_cut, bL, bx, bY]
   ·rw [decide_eq_false p2, Bool.false_and, Bool.not_false, Bool.true_and]
    generalize lst false (rectR.vals x.ar) = VX at *
    generalize lst false (rectR.vals y.ar) = VY at *
    cases g <;>
    ·simp -implicitDefEqProofs [k35_4] at ih
     simp -implicitDefEqProofs [r35_4, k35_4, ln, hi1, xi1, xm, wm, w2, n0, q1, q2, q3, q4, lx, rx, ret0 m40, rr, p1, p2, hw, trim_cut, bL, bx, bY]
     exact ih
open Rg (Rect Lv Bx putL floorsL heightsB basesB sortU areaL atL volL)
def atV : List Lv → Int → Value
 | [], _ => .slice none 0 0
 | x :: o, z => if x.lo ≤ z ∧ z < x.hi then lst false (rectR.vals x.ar) else atV o z
theorem atV_some : ∀ {s : List Lv} {z : Int}, atL s z ≠ [] → atV s z = lst false (rectR.vals (atL s z))
 | [], z, h => absurd rfl h
 | x :: o, z, h => by
  unfold atL at h ⊢
  unfold atV
  by_cases q : x.lo ≤ z ∧ z < x.hi
  ·rw [if_pos q, if_pos q]
  ·rw [if_neg q] at h
   rw [if_neg q, if_neg q]
   exact atV_some h
theorem at_sol (k : Bool) (s : List Lv) (z : Int) (hl : s.length ≤ 1000000) : pureCall E.P (L E) 37 [lst k (lvR.vals s), .int .i64 z] = some (atV s z) := by
 have ln : ∀ h, lenT .sl h (lst k (lvR.vals s)) = some (.int .i64 s.length) := fun h => Rec.tree_len
 have ix : ∀ (j : Nat) (hj : j < s.length), indexAddrT (.sl 83 ⟨some true, some 3⟩) (lst k (lvR.vals s)) (.int .i64 (j : Int)) = some (cptr (lvR.val s[j])) := fun j hj => Rec.index_tree rfl hj
 have bL : ∀ d n, below (d + 1) n (lst k (lvR.vals s)) = true := fun d n => rfl
 rw [pureCall_fn F37 rfl]
 generalize hVL : lst k (lvR.vals s) = VL at *
 simp -implicitDefEqProofs [r37, p37, ln]
 rw [LL_for (γ := Unit) s () (fun i _ => [(9, .int .i64 (i : Int))]) (fun _ _ => [])
  (fun _ rest _ => if rest.any (Rg.hitB z) = true then (.ret, [(4, atV rest z), (9, undef)], []) else (.exit 0, [(9, undef)], [])) (fun _ _ => True) (by omega) trivial]
 ·cases hr : s.any (Rg.hitB z)
  ·have e : atV s z = .slice none 0 0 := by
    clear ln ix hVL
    induction s with
    | nil => rfl
    | cons x s ih =>
     rw [List.any_cons, Bool.or_eq_false_iff] at hr
     unfold atV
     rw [if_neg fun q => by rw [Rg.hitB_iff.2 q] at hr; cases hr.1]
     exact ih (by simp at hl; omega) hr.2
   rw [e]
   simp -implicitDefEqProofs [k37_2]
  ·have rr : ∀ h, reifyR E.P h (atV s z) = some (atV s z) := fun h => by
    clear ln ix hVL hr hl
    induction s with
    | nil => rfl
    | cons x s ih =>
     unfold atV
     split
     ·rfl
     ·exact ih
   simp -implicitDefEqProofs [k37_2, rr]
 ·simp -implicitDefEqProofs [k37_2]
 ·rfl
 ·intro nx i p hi _
  simp -implicitDefEqProofs [r37_2, k37_2, ln, hi, trim_le]
 ·intro nx i x rest p hi hv hd hw _ ih
  have xi := ix i hi
  rw [hv, lv_val] at xi
  have bx : ∀ d n, below (d + 1) n (lst false (rectR.vals x.ar)) = true := fun d n => rfl
  have ih := ih () trivial
  have e0 : atV (x :: rest) z = if x.lo ≤ z ∧ z < x.hi then lst false (rectR.vals x.ar) else atV rest z := rfl
  rw [List.any_cons, e0]
  by_cases h1 : x.lo ≤ z
  ·by_cases h2 : z < x.hi
   ·rw [Rg.hitB_iff.2 ⟨h1, h2⟩, Bool.true_or, if_pos rfl, if_pos ⟨h1, h2⟩]
    generalize lst false (rectR.vals x.ar) = VX at *
    simp -implicitDefEqProofs [r37_2, k37_2, ln, hi, xi, h1, h2, trim_cut, bL, bx]
   ·rw [show Rg.hitB z x = false from Bool.eq_false_iff.2 fun q => h2 (Rg.hitB_iff.1 q).2, Bool.false_or, if_neg (show ¬ (x.lo ≤ z ∧ z < x.hi) from fun q => h2 q.2)]
    generalize lst false (rectR.vals x.ar) = VX at *
    generalize rest.any (Rg.hitB z) = g at *
    cases g <;>
    ·simp -implicitDefEqProofs [k37_2] at ih
     simp -implicitDefEqProofs [r37_2, k37_2, ln, hi, xi, h1, h2, hw, trim_cut, bL, bx]
     exact ih
  ·rw [show Rg.hitB z x = false from Bool.eq_false_iff.2 fun q => h1 (Rg.hitB_iff.1 q).1, Bool.false_or, if_neg (show ¬ (x.lo ≤ z ∧ z < x.hi) from fun q => h1 q.1)]
   generalize lst false (rectR.vals x.ar) = VX at *
   generalize rest.any (Rg.hitB z) = g at *
   cases g <;>
   ·simp -implicitDefEqProofs [k37_2] at ih
    simp -implicitDefEqProofs [r37_2, k37_2, ln, hi, xi, h1, hw, trim_cut, bL, bx]
    exact ih
theorem sol_nil : ∀ (v : Value) (l : List Value), aBin E.P .eql 22 (lst false (v :: l)) (.slice none 0 0) = some (.bool false) := fun v l => by kernel_rfl
theorem sol_copy {h : Heap} {lo : Nat} {a : List Rect} (h0 : a ≠ []) (hl : a.length ≤ 1000000) :
  appendT (some ⟨41, 4, 32, .agg ⟨[.int .i64 0, .int .i64 0, .int .i64 0, .int .i64 0]⟩, ⟨some true, some 4⟩⟩) h lo false (lst true []) (lst false (rectR.vals a)) = some (rectR.sl h.length a, h ++ [rectR.row 41 a]) := by
 have hn : a.length ≠ 0 := fun e => h0 (List.eq_nil_of_length_eq_zero e)
 have hc : sliceCells h 4 (lst false (rectR.vals a)) = some (rectR.flat a, a.length) := Rec.cells_tree (R := rectR) rfl a
 unfold appendT
 simp only [Option.bind_some, hc]
 show (if a.length = 0 then _ else _) = _
 rw [if_neg hn, if_pos ⟨rfl, rfl, by show (0 + a.length) * 32 ≤ 2 ^ 47; omega⟩]
 have hf := Rec.flat_len (R := rectR) (l := a)
 have hm : rectR.m + 1 = 4 := rfl
 unfold Rec.sl Rec.row
 rw [hm] at *
 simp [hf]
 rfl
theorem clone_sol (a : List Rect) (h : Heap) (lo : Nat) (h0 : a ≠ []) (hl : a.length ≤ 1000000) : retCall E (L E) lo false 36 [lst false (rectR.vals a)] h = some (rectR.sl h.length a, h ++ [rectR.row 41 a]) := by
 have key : L E 36 [lst false (rectR.vals a)] h lo = some (rectR.sl h.length a, h ++ [rectR.row 41 a]) := by
  have e1 : aBin E.P .eql 22 (lst false (rectR.vals a)) (.slice none 0 0) = some (.bool false) := by
   cases a with
   | nil => exact absurd rfl h0
   | cons r l => exact sol_nil _ _
  have e2 := fun h => sol_copy (h := h) (lo := lo) h0 hl
  have e3 : ∀ h, buildSliceT (some ⟨41, 4, 32, .agg ⟨[.int .i64 0, .int .i64 0, .int .i64 0, .int .i64 0]⟩, ⟨some true, some 4⟩⟩) false h 0 #[] = some (lst true [], h) := fun h => rfl
  rw [L_fn F36 rfl]
  generalize lst false (rectR.vals a) = VA at *
  simp -implicitDefEqProofs [r36, p36, e1, e2, e3]
 rw [ret3t m36, key, Option.map_some]
 have hb : ¬ below depth h.length (rectR.sl h.length a) = true := by
  intro q
  have : h.length < h.length := of_decide_eq_true q
  exact Nat.lt_irrefl _ this
 have : trim h.length [rectR.sl h.length a] (h ++ [rectR.row 41 a]) = h ++ [rectR.row 41 a] := by
  unfold Bm.trim
  split
  ·rfl
  ·rw [if_neg]
   intro q
   simp only [List.all_cons, List.all_nil, Bool.and_true, Bool.and_eq_true] at q
   exact hb q.1
 rw [this]
theorem section_sol (s : List Lv) (z : Int) (hs : ∀ y ∈ s, y.ar.length ≤ 1000000) (hl : s.length ≤ 1000000) (hr : rightS s = true) (h0 : atL s z ≠ []) : pureCall E.P (L E) 12 [lst false (lvR.vals s), .int .i64 z] = some (lst false (rectR.vals (atL s z))) := by
 have rg := right_sol false s hs hl
 have ra := at_sol false s z hl
 rw [hr] at rg
 rw [atV_some h0] at ra
 have hal : (atL s z).length ≤ 1000000 := by
  clear rg ra hr hl
  induction s with
  | nil => exact absurd rfl h0
  | cons x s ih =>
   unfold atL at h0 ⊢
   split
   ·exact hs x (List.mem_cons_self ..)
   ·rename_i q
    rw [if_neg q] at h0
    exact ih (fun y hy => hs y (List.mem_cons_of_mem _ hy)) h0
 have cl := fun h => clone_sol (atL s z) h 0 h0 hal
 have rf : ∀ h, reify E.P 8 h (lst false (lvR.vals s)) = some (lst false (lvR.vals s)) := fun _ => rfl
 have ss : settled depth (lst false (lvR.vals s)) = true := rfl
 have sz : settled depth (.int .i64 z) = true := rfl
 have rr := fun h : Heap => Rec.reifyR_row (R := rectR) (P := E.P) (h := h ++ [rectR.row 41 (atL s z)]) (b := h.length) (t := 41) (l := atL s z) end0 s32 a32
 have cl0 := cl []
 have rr0 := rr []
 rw [pureCall_fn F12 rfl]
 generalize lst false (lvR.vals s) = VS at *
 generalize atL s z = A at *
 generalize lst false (rectR.vals A) = VA at *
 simp only [List.nil_append, List.length_nil] at cl0 rr0
 simp -implicitDefEqProofs [r12, p12, ret0 m35, rf, rg, ret1 m37, ss, sz, ra, cl0, rr0]
theorem sBx : szOf E.P 43 = some 6 := by kernel_rfl
theorem aBx : aggT E.P 43 = some true := by kernel_rfl
def boxL (x : Lv) : List Bx := x.ar.map fun r => ⟨r, x.lo, x.hi⟩
def boxesL (s : List Lv) : List Bx := s.flatMap boxL
theorem b6_all (p q r s a b : Int) : buildT (Bl.fs ⟨[.int .i64 0, .int .i64 0, .int .i64 0, .int .i64 0, .int .i64 0, .int .i64 0]⟩ ⟨[(0, 4), (4, 1), (5, 1)]⟩) #[(0, .agg ⟨[.int .i64 p, .int .i64 q, .int .i64 r, .int .i64 s]⟩), (1, .int .i64 a), (2, .int .i64 b)] = some (.agg ⟨[.int .i64 p, .int .i64 q, .int .i64 r, .int .i64 s, .int .i64 a, .int .i64 b]⟩) := by kernel_rfl
theorem lit_bx (h : Heap) (b : Bx) : buildSliceT (some ⟨43, 6, 48, .agg ⟨[.int .i64 0, .int .i64 0, .int .i64 0, .int .i64 0, .int .i64 0, .int .i64 0]⟩, ⟨some true, some 6⟩⟩) false h 1 #[(0, .agg ⟨[.int .i64 b.b.x0, .int .i64 b.b.y0, .int .i64 b.b.x1, .int .i64 b.b.y1, .int .i64 b.lo, .int .i64 b.hi]⟩)] = some (lst true [.agg ⟨[.int .i64 b.b.x0, .int .i64 b.b.y0, .int .i64 b.b.x1, .int .i64 b.b.y1, .int .i64 b.lo, .int .i64 b.hi]⟩], h) :=
 (build_lit' (n := 1) (l := [(0, _)]) rfl rfl (by decide) (by decide) (by decide)).trans rfl
theorem app_bx {h : Heap} {b lo : Nat} {c : List Bx} (x : Bx) (hob : h[b]? = some (bxR.row 43 c)) (hlo : lo ≤ b) (hc : c.length ≤ 1000000) :
  appendT (some ⟨43, 6, 48, .agg ⟨[.int .i64 0, .int .i64 0, .int .i64 0, .int .i64 0, .int .i64 0, .int .i64 0]⟩, ⟨some true, some 6⟩⟩) h lo false (bxR.sl b c) (lst true [.agg ⟨[.int .i64 x.b.x0, .int .i64 x.b.y0, .int .i64 x.b.x1, .int .i64 x.b.y1, .int .i64 x.lo, .int .i64 x.hi]⟩]) = some (bxR.sl b (c ++ [x]), h.set b (bxR.row 43 (c ++ [x]))) :=
 Rec.app (R := bxR) (m := [x]) rfl hob (Rec.cells_tree (R := bxR) rfl [x]) hlo (by show (c.length + 1) * 48 ≤ 2 ^ 47; omega)
theorem run_reg : ∀ {s : List Lv} {p : Option Lv}, runS p s = true → ∀ x ∈ s, x.ar.length ≤ 200 ∧ regB x.ar = true ∧ 0 ≤ x.lo ∧ x.lo < x.hi ∧ x.hi ≤ 4096
 | [], _, _, x, h => absurd h List.not_mem_nil
 | y :: s, p, h, x, hx => by
  rw [runS_cons, Bool.and_eq_true, Bool.and_eq_true] at h
  rcases List.mem_cons.1 hx with q | q
  ·obtain ⟨a, b, c, _, d⟩ := oneS_iff.1 h.1
   rw [q]
   exact ⟨(regB_iff.1 d).2.1, d, a, b, c⟩
  ·exact run_reg h.2.2 x q
theorem right_run {s : List Lv} (h : rightS s = true) : s.length ≤ 80 ∧ runS none s = true := by
 unfold rightS at h
 rw [Bool.and_eq_true, decide_eq_true_eq] at h
 exact h
set_option maxHeartbeats 1000000 in
theorem boxes_sol (s : List Lv) (hr : rightS s = true) : pureCall E.P (L E) 38 [lst false (lvR.vals s)] = some (lst false (bxR.vals (boxesL s))) := by
 obtain ⟨h80, hrun⟩ := right_run hr
 have rg := right_sol false s (fun y hy => by have := (run_reg hrun y hy).1; omega) (by omega)
 rw [hr] at rg
 have rf : ∀ h, reify E.P 8 h (lst false (lvR.vals s)) = some (lst false (lvR.vals s)) := fun _ => rfl
 have ln : ∀ h, lenT .sl h (lst false (lvR.vals s)) = some (.int .i64 s.length) := fun h => Rec.tree_len
 have ix : ∀ (j : Nat) (hj : j < s.length), indexAddrT (.sl 83 ⟨some true, some 3⟩) (lst false (lvR.vals s)) (.int .i64 (j : Int)) = some (cptr (lvR.val s[j])) := fun j hj => Rec.index_tree rfl hj
 have bL : ∀ d n, below (d + 1) n (lst false (lvR.vals s)) = true := fun d n => rfl
 rw [pureCall_fn F38 rfl]
 generalize hVL : lst false (lvR.vals s) = VL at *
 simp -implicitDefEqProofs [r38, p38, ret0 m35, rf, rg, prep_new, newK_nil sBx, ln]
 rw [LL_for (γ := List Bx) s [] (fun i c => [(3, bxR.sl 0 c), (13, .int .i64 (i : Int))]) (fun _ c => [bxR.row 43 c])
  (fun _ rest c => (.exit 0, [(3, bxR.sl 0 (c ++ boxesL rest)), (13, undef)], [bxR.row 43 (c ++ boxesL rest)])) (fun i c => c.length ≤ 200 * i) (by omega) (Nat.le_refl _)]
 ·rw [List.nil_append]
  generalize boxesL s = B
  have rr := Rec.reifyR_row (R := bxR) (P := E.P) (h := [bxR.row 43 B]) (b := 0) (t := 43) (l := B) rfl sBx aBx
  simp -implicitDefEqProofs [k38_5, rr]
 ·simp -implicitDefEqProofs [k38_5, Rec.sl_nil]
 ·rfl
 ·intro nx i c hi _
  simp -implicitDefEqProofs [r38_5, k38_5, ln, hi, trim_le, boxesL]
 ·intro nx i x rest c hi hv hd hw hc ih
  have xi := ix i hi
  rw [hv, lv_val] at xi
  have hxl := (run_reg hrun x (by rw [← hv]; exact List.getElem_mem hi)).1
  have bx : ∀ d n, below (d + 1) n (lst false (rectR.vals x.ar)) = true := fun d n => rfl
  have lx : ∀ h, lenT .sl h (lst false (rectR.vals x.ar)) = some (.int .i64 x.ar.length) := fun h => Rec.tree_len
  have jx : ∀ (j : Nat) (hj : j < x.ar.length), indexAddrT (.sl 41 ⟨some true, some 4⟩) (lst false (rectR.vals x.ar)) (.int .i64 (j : Int)) = some (cptr (rectR.val x.ar[j])) := fun j hj => Rec.index_tree rfl hj
  have hbl : (boxL x).length = x.ar.length := List.length_map _
  have ih := ih (c ++ boxL x) (by rw [List.length_append, hbl]; omega)
  rw [show boxesL (x :: rest) = boxL x ++ boxesL rest from rfl, ← List.append_assoc, show boxL x = x.ar.map fun r => ⟨r, x.lo, x.hi⟩ from rfl]
  rw [show boxL x = x.ar.map fun r => ⟨r, x.lo, x.hi⟩ from rfl] at ih
  generalize lst false (rectR.vals x.ar) = VX at *
  simp -implicitDefEqProofs [k38_5, -List.append_assoc] at ih
  simp -implicitDefEqProofs [r38_5, k38_5, ln, hi, xi, lx, -List.append_assoc]
  obtain ⟨BX, hBX⟩ : ∃ BX, BX = AObj.cells 83 [.int .i64 x.lo, .int .i64 x.hi, VX] 0 := ⟨_, rfl⟩
  rw [LL_for (γ := List Bx) x.ar c (fun j c => [(3, bxR.sl 0 c), (20, .int .i64 (j : Int))]) (fun _ c => [bxR.row 43 c, BX])
   (fun _ rest c => (.exit 2, [(3, bxR.sl 0 (c ++ rest.map fun r => ⟨r, x.lo, x.hi⟩)), (20, undef)], [bxR.row 43 (c ++ rest.map fun r => ⟨r, x.lo, x.hi⟩), BX])) (fun j c' => c'.length = c.length + j) (by omega) rfl]
  ·simp -implicitDefEqProofs [k38_8, hw, trim_cut, Rec.sl_bel, Rec.row_bel, bL, bx, -List.append_assoc]
   exact ih
  ·simp -implicitDefEqProofs [k38_8]
  ·rw [hBX]
  ·intro nx j c' hj _
   simp -implicitDefEqProofs [r38_8, k38_8, lx, hj, trim_le]
  ·intro nx j r rest c' hj hv hd hw hc' ih
   have xj := jx j hj
   rw [hv, rect_val] at xj
   have ap := fun o => app_bx (h := [bxR.row 43 c', BX, o]) (b := 0) (lo := 0) (c := c') ⟨r, x.lo, x.hi⟩ rfl (Nat.le_refl _) (by omega)
   have lb := fun h => lit_bx h ⟨r, x.lo, x.hi⟩
   simp only at ap lb
   have ih := ih (c' ++ [⟨r, x.lo, x.hi⟩]) (by simp; omega)
   rw [List.map_cons, show c' ++ (⟨r, x.lo, x.hi⟩ : Bx) :: (rest.map fun r => (⟨r, x.lo, x.hi⟩ : Bx)) = c' ++ [⟨r, x.lo, x.hi⟩] ++ rest.map (fun r => (⟨r, x.lo, x.hi⟩ : Bx)) by rw [List.append_assoc]; rfl]
   simp -implicitDefEqProofs [k38_8, -List.append_assoc] at ih
   subst hBX
   simp -implicitDefEqProofs [r38_8, k38_8, lx, hj, xj, b6_all, lb, ap, hw, trim_cut, Rec.sl_bel, Rec.row_bel, bL, bx, -List.append_assoc]
   exact ih
def volB : List Bx → Int
 | [] => 0
 | b :: l => (b.hi - b.lo) * b.b.area + volB l
theorem volB_app : ∀ (l m : List Bx), volB (l ++ m) = volB l + volB m
 | [], m => by show volB m = 0 + volB m; omega
 | b :: l, m => by show _ + volB (l ++ m) = (_ + volB l) + volB m; rw [volB_app l m]; omega
theorem volB_one (x : Lv) (l : List Rect) : volB (l.map fun r => ⟨r, x.lo, x.hi⟩) = (x.hi - x.lo) * areaL l := by
 induction l with
 | nil => show 0 = _ * (0 : Int); simp
 | cons r l ih => show (x.hi - x.lo) * r.area + volB (l.map fun r => ⟨r, x.lo, x.hi⟩) = (x.hi - x.lo) * (r.area + areaL l); rw [ih, Int.mul_add]
theorem vol_boxes : ∀ s : List Lv, volB (boxesL s) = volL s
 | [] => rfl
 | x :: s => by
  show volB (boxL x ++ boxesL s) = _
  rw [volB_app, vol_boxes s, show boxL x = x.ar.map fun r => ⟨r, x.lo, x.hi⟩ from rfl, volB_one]
  unfold volL
  rw [List.map_cons, List.sum_cons]
theorem area_le200 : ∀ (l : List Rect), l.all okR = true → 0 ≤ areaL l ∧ areaL l ≤ l.length * 1099511627776
 | [], _ => ⟨Int.le_refl _, Int.le_refl _⟩
 | r :: l, h => by
  rw [List.all_cons, Bool.and_eq_true] at h
  have ih := area_le200 l h.2
  have hb := area_bound h.1
  show 0 ≤ r.area + areaL l ∧ r.area + areaL l ≤ ((l.length + 1 : Nat) : Int) * 1099511627776
  push_cast
  omega
def botS (p : Option Lv) : Int := match p with | none => 0 | some y => y.hi
theorem vol_le : ∀ {s : List Lv} {p : Option Lv}, runS p s = true → 0 ≤ volL s ∧ botS p ≤ 4096 → volL s ≤ (4096 - botS p) * 219902325555200 := by
 intro s
 induction s with
 | nil => exact fun {p} _ h => by show (0 : Int) ≤ _; have := h.2; omega
 | cons x s ih =>
  intro p h h0
  rw [runS_cons, Bool.and_eq_true, Bool.and_eq_true] at h
  obtain ⟨a, b, c, _, d⟩ := oneS_iff.1 h.1
  obtain ⟨e1, e2, _⟩ := regB_iff.1 d
  have ha := area_le200 x.ar e1
  have hv : volL (x :: s) = (x.hi - x.lo) * areaL x.ar + volL s := by unfold volL; rw [List.map_cons, List.sum_cons]
  have h1 : (x.hi - x.lo) * areaL x.ar ≤ (x.hi - x.lo) * 219902325555200 := Int.mul_le_mul_of_nonneg_left (by omega) (by omega)
  have hs0 : 0 ≤ volL s := by
   have : ∀ {s : List Lv} {p : Option Lv}, runS p s = true → 0 ≤ volL s := by
    intro s
    induction s with
    | nil => exact fun _ => Int.le_refl _
    | cons y s ih2 =>
     intro p hq
     rw [runS_cons, Bool.and_eq_true, Bool.and_eq_true] at hq
     obtain ⟨a', b', c', _, d'⟩ := oneS_iff.1 hq.1
     have ha' := area_le200 y.ar (regB_iff.1 d').1
     have hv' : volL (y :: s) = (y.hi - y.lo) * areaL y.ar + volL s := by unfold volL; rw [List.map_cons, List.sum_cons]
     have := ih2 hq.2.2
     have h2 : 0 ≤ (y.hi - y.lo) * areaL y.ar := Int.mul_nonneg (by omega) ha'.1
     omega
   exact this h.2.2
  have i2 := ih (p := some x) h.2.2 ⟨hs0, c⟩
  have i3 : botS (some x) = x.hi := rfl
  rw [i3] at i2
  have hp : botS p ≤ x.lo := by
   cases p with
   | none => exact a
   | some y =>
    have := h.2.1
    have : nextS y x = true := this
    unfold nextS at this
    rw [Bool.and_eq_true, decide_eq_true_eq] at this
    exact this.1
  rw [hv]
  omega
theorem area_b (r : Rect) (h : okR r = true) : 0 ≤ r.area ∧ r.area ≤ 1099511627776 := by
 have := area_bound h
 omega
set_option maxHeartbeats 1000000 in
theorem volume_sol (s : List Lv) (hr : rightS s = true) : pureCall E.P (L E) 13 [lst false (lvR.vals s)] = some (.int .i64 (volX s)) := by
 obtain ⟨h80, hrun⟩ := right_run hr
 have bs := boxes_sol s hr
 have rf : ∀ h, reify E.P 8 h (lst false (lvR.vals s)) = some (lst false (lvR.vals s)) := fun _ => rfl
 have ss : settled depth (lst false (lvR.vals s)) = true := rfl
 have ln : ∀ h, lenT .sl h (lst false (bxR.vals (boxesL s))) = some (.int .i64 (boxesL s).length) := fun h => Rec.tree_len
 have ix : ∀ (j : Nat) (hj : j < (boxesL s).length), indexAddrT (.sl 43 ⟨some true, some 6⟩) (lst false (bxR.vals (boxesL s))) (.int .i64 (j : Int)) = some (cptr (bxR.val (boxesL s)[j])) := fun j hj => Rec.index_tree rfl hj
 have bL : ∀ d n, below (d + 1) n (lst false (lvR.vals s)) = true := fun d n => rfl
 have bB : ∀ d n, below (d + 1) n (lst false (bxR.vals (boxesL s))) = true := fun d n => rfl
 have hbl : (boxesL s).length ≤ 200 * s.length := by
  have key : ∀ t : List Lv, (∀ x ∈ t, x.ar.length ≤ 200) → (boxesL t).length ≤ 200 * t.length := by
   intro t
   induction t with
   | nil => exact fun _ => Nat.le_refl _
   | cons x t ih =>
    intro h
    have := ih fun y hy => h y (List.mem_cons_of_mem _ hy)
    have hx := h x (List.mem_cons_self ..)
    have hb : (boxL x).length = x.ar.length := List.length_map _
    rw [show boxesL (x :: t) = boxL x ++ boxesL t from rfl, List.length_append, hb, List.length_cons]
    omega
  exact key s fun x hx => (run_reg hrun x hx).1
 have hok : ∀ b ∈ boxesL s, okR b.b = true ∧ 0 ≤ b.hi - b.lo ∧ b.hi - b.lo ≤ 4096 ∧ -4096 ≤ b.lo ∧ b.lo ≤ 4096 := by
  intro b hb
  obtain ⟨x, hx, hbx⟩ := List.mem_flatMap.1 hb
  obtain ⟨r, hrx, rfl⟩ := List.mem_map.1 hbx
  obtain ⟨_, d, a1, a2, a3⟩ := run_reg hrun x hx
  refine ⟨List.all_eq_true.1 (regB_iff.1 d).1 r hrx, ?_, ?_, ?_, ?_⟩ <;> simp only <;> omega
 have hvol := vol_boxes s
 have h0v : ∀ l : List Bx, (∀ b ∈ l, okR b.b = true ∧ 0 ≤ b.hi - b.lo ∧ b.hi - b.lo ≤ 4096 ∧ -4096 ≤ b.lo ∧ b.lo ≤ 4096) → 0 ≤ volB l := by
  intro l
  induction l with
  | nil => exact fun _ => Int.le_refl _
  | cons b l ih =>
   intro h
   have h1 := h b (List.mem_cons_self ..)
   have h2 := ih fun c hc => h c (List.mem_cons_of_mem _ hc)
   have h3 : 0 ≤ (b.hi - b.lo) * b.b.area := Int.mul_nonneg h1.2.1 (area_b _ h1.1).1
   show 0 ≤ (b.hi - b.lo) * b.b.area + volB l
   omega
 have htot : volB (boxesL s) ≤ 900719925474099200 := by
  rw [hvol]
  have := vol_le (p := none) hrun ⟨by rw [← hvol]; exact h0v _ hok, by decide⟩
  have e : botS none = 0 := rfl
  rw [e] at this
  omega
 have eX : volX s = volB (boxesL s) := by unfold volX; rw [if_pos hr, hvol]
 rw [eX, pureCall_fn F13 rfl]
 generalize lst false (lvR.vals s) = VL at *
 generalize boxesL s = B at *
 generalize lst false (bxR.vals B) = VB at *
 simp -implicitDefEqProofs [r13, p13, ret1 m38, ss, bs, ln]
 rw [LL_for (γ := Int) B 0 (fun i n => [(3, .int .i64 n), (9, .int .i64 (i : Int))]) (fun _ _ => []) (fun _ rest n => (.exit 0, [(3, .int .i64 (n + volB rest)), (9, undef)], [])) (fun i n => n = volB (B.take i)) (by omega) rfl]
 ·simp -implicitDefEqProofs [k13_3]
 ·simp -implicitDefEqProofs [k13_3]
 ·rfl
 ·intro nx i c hi _
  simp -implicitDefEqProofs [r13_3, k13_3, ln, hi, trim_le, volB]
 ·intro nx i b rest n hi hv hd hw hn ih
  have xi := ix i hi
  rw [hv, bx_val] at xi
  obtain ⟨k1, k2, k3, k4, k5⟩ := hok b (by rw [← hv]; exact List.getElem_mem hi)
  obtain ⟨a1, a2⟩ := area_b _ k1
  have ar := area_s b.b k1
  have hn0 : 0 ≤ n := by rw [hn]; exact h0v _ fun c hc => hok c (List.mem_of_mem_take hc)
  have hr0 : 0 ≤ volB rest := h0v _ fun c hc => hok c (List.mem_of_mem_drop (i := i) (by rw [hd]; exact List.mem_cons_of_mem _ hc))
  have hsum : volB B = n + ((b.hi - b.lo) * b.b.area + volB rest) := by
   have e := List.take_append_drop i B
   rw [hd] at e
   have e3 := volB_app (B.take i) (b :: rest)
   rw [e] at e3
   rw [e3, hn]; rfl
  have hp0 : 0 ≤ (b.hi - b.lo) * b.b.area := Int.mul_nonneg k2 a1
  have w1 : IntKind.i64.wrap (b.hi - b.lo) = b.hi - b.lo := wrap64 (by omega) (by omega)
  have w2 : IntKind.i64.wrap ((b.hi - b.lo) * b.b.area) = (b.hi - b.lo) * b.b.area := wrap64 (by omega) (by omega)
  have w3 : IntKind.i64.wrap (n + (b.hi - b.lo) * b.b.area) = n + (b.hi - b.lo) * b.b.area := wrap64 (by omega) (by omega)
  have ih := ih (n + (b.hi - b.lo) * b.b.area) (by
   rw [List.take_succ_eq_append_getElem hi, volB_app, ← hn, hv]
   show _ = n + ((b.hi - b.lo) * b.b.area + 0)
   omega)
  rw [show n + volB (b :: rest) = n + (b.hi - b.lo) * b.b.area + volB rest from by show n + ((b.hi - b.lo) * b.b.area + volB rest) = _; omega]
  simp -implicitDefEqProofs [k13_3] at ih
  simp -implicitDefEqProofs [r13_3, k13_3, ln, hi, xi, ret0 m39, ar, w1, w2, w3, hw, trim_cut, bL, bB]
  exact ih
open Rg (Rect areaL)
def areasV (o : Option (List Int)) : List Value := match o with
 | none => [.slice none 0 0, .int .i64 1]
 | some A => [lst false (intE.vals A), .int .i64 0]
def goodA (P : Rooms) : List Int := (P.takeWhile fun r => regB r.2).map fun r => areaL r.2
theorem goodA_all {P : Rooms} (h : P.all (fun r => regB r.2) = true) : goodA P = P.map fun r => areaL r.2 := by
 unfold goodA
 congr 1
 induction P with
 | nil => rfl
 | cons r P ih =>
  rw [List.all_cons, Bool.and_eq_true] at h
  rw [List.takeWhile_cons, if_pos h.1, ih h.2]
theorem lists_all (P : Rooms) : (lists P).all regB = P.all (fun r => regB r.2) := by unfold lists; rw [List.all_map]; rfl
theorem lists_map (P : Rooms) : (lists P).map areaL = P.map fun r => areaL r.2 := by unfold lists; rw [List.map_map]; rfl
set_option maxHeartbeats 1000000 in
theorem areas_spec (x : Bool) (P : Rooms) (hP : RoomsOk P) : pureCall E.P (L E) 15 [roomsV x P] = some (.tuple ⟨areasV (areasF (lists P))⟩) := by
 have ln := fun h => rooms_len h x P
 have ix := rooms_index x P
 have h13 := hP.len
 have hll : (lists P).length = P.length := List.length_map _
 generalize roomsV x P = RV at *
 rw [pureCall_fn F15 rfl]
 unfold areasF
 rw [hll, lists_all, lists_map]
 by_cases h12 : 12 < P.length
 ·have h12' : (12 : Int) < P.length := by omega
  have hn : ¬ (P.length ≤ 12 ∧ P.all (fun r => regB r.2) = true) := fun h => by omega
  rw [if_neg hn]
  simp -implicitDefEqProofs [r15, p15, ln, h12', areasV]
 have h12' : ¬ ((12 : Int) < P.length) := by omega
 simp -implicitDefEqProofs [r15, p15, ln, h12', prep_new, newK_nil sI1]
 rw [LL_for (γ := List Int) P [] (fun i c => [(4, Enc.sl 0 c), (13, .int .i64 i)]) (fun _ c => [intE.row 3 c])
  (fun _ rest c => if rest.all (fun r => regB r.2) = true then (.exit 0, [(4, Enc.sl 0 (c ++ goodA rest)), (13, undef)], [intE.row 3 (c ++ goodA rest)]) else (.ret, [(2, .slice none 0 0), (3, .int .i64 1), (4, Enc.sl 0 (c ++ goodA rest)), (13, undef)], [intE.row 3 (c ++ goodA rest)])) (fun i c => c.length = i) (by omega) rfl]
 ·by_cases ha : P.all (fun r => regB r.2) = true
  ·rw [if_pos ha, if_pos ⟨by omega, ha⟩, goodA_all ha, List.nil_append]
   have hidx := index_ints (some false) (P.map fun r => areaL r.2) 0 Enc.ok_some (by rw [List.length_map]; omega)
   have it := idx_take (P.map fun r => areaL r.2) 0 (Int.le_refl _)
   simp only [ne_eq, decide_not] at it
   have hr : ∀ h, h = [intE.row 3 (P.map fun r => areaL r.2)] → reify E.P 8 h (Enc.sl 0 (P.map fun r => areaL r.2)) = some (intE.o (some false) (P.map fun r => areaL r.2)) := fun h hh => by
    subst hh; exact Enc.reify_sl (O := intE) (b := 0) rfl sI1 gI1
   have hr := hr _ rfl
   have hrp := fun (n : Nat) (hn : n ≤ (P.map fun r => areaL r.2).length) => Enc.reify_part (O := intE) (P := E.P) (d := 7) (h := [intE.row 3 (P.map fun r => areaL r.2)]) (b := 0) (n := n) rfl hn sI1 gI1
   have hpt := fun (n : Nat) (hn : n ≤ (P.map fun r => areaL r.2).length) => Enc.part_take (O := intE) (h := [intE.row 3 (P.map fun r => areaL r.2)]) (b := 0) (n := (P.map fun r => areaL r.2).length) (m := n) (g := some false) (e := 3) (k := .i64) rfl hn
   generalize (P.map fun r => areaL r.2) = AL at *
   generalize hz : idxB (fun a => decide ((0 : Int) = a)) AL 0 = z at *
   by_cases hz1 : z = -1
   ·have e := it.1 hz1
    have hneg : ¬ ((0 : Int) ≤ z) := by omega
    have hr2 : reify E.P 8 [intE.row 3 AL] (Enc.sl 0 AL) = some (lst false (intE.vals AL)) := hr
    rw [e]
    simp -implicitDefEqProofs [k15_5, ret0 m42, hr, hidx, hneg, areasV]
    rfl
   ·obtain ⟨z1, z2, z3⟩ := it.2 hz1
    have ez : z = ((z.toNat : Nat) : Int) := by omega
    rw [Int.sub_zero] at z2 z3
    have hr2 := hrp z.toNat z3
    have hp2 := hpt z.toNat z3
    rw [z2] at hr2
    have hp2 : sliceT (.sl 3 ⟨some false, some 1⟩) [intE.row 3 AL] (Enc.sl 0 AL) none (some (.int .i64 z)) none = some (Enc.part 0 z.toNat AL) := by rw [ez]; exact hp2
    simp -implicitDefEqProofs [k15_5, ret0 m42, hr, hidx, z1, hp2, hr2, areasV]
  ·rw [if_neg ha, if_neg fun h => ha h.2]
   simp -implicitDefEqProofs [k15_5, areasV]
 ·simp -implicitDefEqProofs [k15_5]
  rfl
 ·rfl
 ·intro nx i c hi _
  have e : goodA [] = [] := rfl
  simp -implicitDefEqProofs [r15_5, k15_5, hi, trim_le, e]
 ·intro nx i v rest c hi hv hd hw hc ih
  have hi' : (i : Int) < (P.length : Int) := by omega
  have xi := ix i hi
  rw [hv] at xi
  have lv := fun h => rooms_load h v
  have rv := fun h => room_reify h v
  have hvm : v ∈ P := hv ▸ List.getElem_mem hi
  have rr := room_right v (hP.ok v hvm) (hP.few v hvm)
  rw [List.all_cons]
  cases hg : regB v.2
  ·have e : goodA (v :: rest) = [] := by unfold goodA; rw [List.takeWhile_cons, if_neg (by rw [hg]; simp)]; rfl
   rw [hg] at rr
   simp -implicitDefEqProofs [r15_5, k15_5, hi', xi, lv, ret0 m40, rv, rr, trim_le, e]
  ·have e : goodA (v :: rest) = areaL v.2 :: goodA rest := by unfold goodA; rw [List.takeWhile_cons, if_pos hg]; rfl
   have ra := room_area v (hP.ok v hvm) (hP.few v hvm) hg
   rw [hg] at rr
   have ap := Enc.app (O := intE) (m := [areaL v.2]) (el := elInt) (h := [intE.row 3 c]) (lo := 0) (b := 0) (t := 3) (l := c) (u := lst true (intE.vals [areaL v.2])) rfl rfl Enc.cells_tree (Nat.le_refl _) (by show (c.length + 1) * 8 ≤ 2 ^ 47; omega)
   have lt := lit_int [intE.row 3 c] (areaL v.2)
   have ih := ih (c ++ [areaL v.2]) (by rw [List.length_append, hc]; rfl)
   have e2 : c ++ [areaL v.2] ++ goodA rest = c ++ areaL v.2 :: goodA rest := by simp
   rw [e2] at ih
   rw [e, Bool.true_and]
   simp -implicitDefEqProofs [k15_5] at ih
   simp -implicitDefEqProofs [r15_5, k15_5, hi', xi, lv, ret0 m40, ret0 m41, rv, rr, ra, lt, ap, hw, trim_le]
   exact ih
theorem areas_call (x : Bool) (P : Rooms) (hP : RoomsOk P) (h : Heap) : retCall E (L E) 0 false 15 [roomsV x P] h = some (.tuple ⟨areasV (areasF (lists P))⟩, h) := by
 have fz : freezeV E.P depth 0 h (roomsV x P) = some (roomsV x P, h) := frz_set8 rfl rfl
 have e : frzAll E.P 0 [roomsV x P] h = some ([roomsV x P], h) := by
  unfold frzAll
  simp only [List.foldlM_cons, List.foldlM_nil, fz]
  rfl
 rw [ret4 m15, e, Option.bind_some, areas_spec x P hP]; rfl
end Go.Proofs.Ythkddpgnhaeooaa.Bm
