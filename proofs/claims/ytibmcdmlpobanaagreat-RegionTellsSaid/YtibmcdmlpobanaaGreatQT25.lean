/-
 Chapter 06: parts of regions, walked: what touches, and the function that gathers it. Conditions: lists that are not too long.
-/
import Derived.Test.YtibmcdmlpobanaaGreatQT24
import Derived.Test.YtibmcdmlpobanaaGreatQT23
import Derived.Test.YtibmcdmlpobanaaGreatQT15
namespace Go.Proofs.YtibmcdmlpobanaaGreat.Bm
open Go Go.RowKit
open Rg (Rect Slab runs runsF outT emit stripL mergeC colC edgesX ends swp cell)
def refC (f : Bool → Bool → Bool) (a b : List Rect) (x : Int) : List (Int × Int) := mergeC f (colC a x) (colC b x)
def refL (f : Bool → Bool → Bool) (a b : List Rect) : List Rect := outT (runsF (stripL (refC f a b) (edgesX (a ++ b))))
theorem refC_ok (f : Bool → Bool → Bool) (hf : f false false = false) {a b : List Rect} (ha : ∀ r ∈ a, r.y0 < r.y1) (hb : ∀ r ∈ b, r.y0 < r.y1) (x : Int) : Rg.Can (refC f a b x) ∧ ∀ y, Rg.hasS (refC f a b x) y = f (cell a x y) (cell b x y) := by
 obtain ⟨h1, h2⟩ := Rg.mergeC_ok f hf (Rg.colC_ok ha x).1 (Rg.colC_ok hb x).1
 refine ⟨h1, fun y => ?_⟩
 rw [show Rg.hasS (refC f a b x) y = _ from h2 y, (Rg.colC_ok ha x).2, (Rg.colC_ok hb x).2]
theorem refL_ok (f : Bool → Bool → Bool) (hf : f false false = false) {a b : List Rect} (ha : ∀ r ∈ a, r.y0 < r.y1) (hb : ∀ r ∈ b, r.y0 < r.y1) : Rg.Form (refL f a b) ∧ ∀ x y, cell (refL f a b) x y = f (cell a x y) (cell b x y) := by
 have h1 : Rg.Steps (a ++ b) (cell a) := (Rg.cell_steps a).mono fun r hr => List.mem_append_left _ hr
 have h2 : Rg.Steps (a ++ b) (cell b) := (Rg.cell_steps b).mono fun r hr => List.mem_append_right _ hr
 exact Rg.strips_form (h1.op h2 f hf) (Rg.sortU_asc _) (Rg.edgesX_all _) (refC f a b) (fun x => (refC_ok f hf ha hb x).1) fun x _ y => (refC_ok f hf ha hb x).2 y
theorem next_run {x0 x1 : Int} {w : List (Int × Int)} {s : Slab} {T : List Slab} (h : s.col = [] ∨ s.col ≠ w) : outT (runs ⟨x0, x1, w⟩ (s :: T)) = emit ⟨x0, x1, w⟩ ++ outT (runs s T) := by
 by_cases e : s.col = w
 ·have h0 : s.col = [] := h.resolve_right fun h => h e
  have hw : w = [] := by rw [← e, h0]
  subst hw
  rw [Rg.runs_none (s := ⟨x0, x1, []⟩) rfl, Rg.emit_nil (s := ⟨x0, x1, []⟩) rfl]; rfl
 ·exact Rg.runs_stop (s := ⟨x0, x1, w⟩) e
theorem stripL_get (c : Int → List (Int × Int)) : ∀ (xs : List Int) (i : Nat) (h : i + 1 < xs.length), ∃ hs : i < (stripL c xs).length, (stripL c xs)[i] = ⟨xs[i], xs[i + 1], c xs[i]⟩
 | [], i, h => by simp at h
 | [_], i, h => by simp at h
 | a :: b :: xs, 0, _ => ⟨Nat.succ_pos _, rfl⟩
 | a :: b :: xs, i + 1, h => by
  obtain ⟨hs, e⟩ := stripL_get c (b :: xs) i (by simpa using h)
  exact ⟨Nat.succ_lt_succ hs, e⟩
theorem emit_len (s : Slab) : (emit s).length = s.col.length := List.length_map _
theorem emit_app (x0 x1 : Int) (c d : List (Int × Int)) : emit ⟨x0, x1, c ++ d⟩ = emit ⟨x0, x1, c⟩ ++ emit ⟨x0, x1, d⟩ := List.map_append
theorem ends_even : ∀ {c : List (Int × Int)} {j : Nat} (hj : j < c.length), (ends c)[2 * j]? = some c[j].1 ∧ (ends c)[2 * j + 1]? = some c[j].2
 | [], j, hj => by simp at hj
 | s :: c, 0, _ => ⟨rfl, rfl⟩
 | s :: c, j + 1, hj => ends_even (c := c) (j := j) (by simpa using hj)
theorem ends_at {c : List (Int × Int)} {j : Nat} (hj : j < c.length) : ∃ (h1 : 2 * j < (ends c).length) (h2 : 2 * j + 1 < (ends c).length), (ends c)[2 * j] = c[j].1 ∧ (ends c)[2 * j + 1] = c[j].2 := by
 have hl := Rg.ends_len c
 obtain ⟨e1, e2⟩ := ends_even hj
 refine ⟨by omega, by omega, ?_, ?_⟩
 ·rw [List.getElem?_eq_getElem (by omega)] at e1; exact Option.some.inj e1
 ·rw [List.getElem?_eq_getElem (by omega)] at e2; exact Option.some.inj e2
theorem out_get {P : List Rect} {x0 x1 x2 : Int} {c : List (Int × Int)} {j : Nat} (hj : j < c.length) :
  (P ++ (emit ⟨x0, x2, c.take j⟩ ++ emit ⟨x0, x1, c.drop j⟩))[P.length + j]? = some ⟨x0, c[j].1, x1, c[j].2⟩ := by
 rw [List.getElem?_append_right (by omega), Nat.add_sub_cancel_left, List.getElem?_append_right (by rw [emit_len]; simp; omega)]
 have e : (emit ⟨x0, x2, c.take j⟩).length = j := by rw [emit_len]; simp; omega
 rw [e, Nat.sub_self, List.drop_eq_getElem_cons hj]; rfl
theorem out_set {P : List Rect} {x0 x1 x2 : Int} {c : List (Int × Int)} {j : Nat} (hj : j < c.length) :
  (P ++ (emit ⟨x0, x2, c.take j⟩ ++ emit ⟨x0, x1, c.drop j⟩)).set (P.length + j) ⟨x0, c[j].1, x2, c[j].2⟩ = P ++ (emit ⟨x0, x2, c.take (j + 1)⟩ ++ emit ⟨x0, x1, c.drop (j + 1)⟩) := by
 have e : (emit ⟨x0, x2, c.take j⟩).length = j := by rw [emit_len]; simp; omega
 rw [List.set_append_right _ _ (by omega), Nat.add_sub_cancel_left, List.set_append_right _ _ (by omega), e, Nat.sub_self, List.drop_eq_getElem_cons hj, List.take_succ_eq_append_getElem hj, emit_app, List.append_assoc]
 rfl
theorem out_len {P : List Rect} {x0 x1 x2 : Int} {c : List (Int × Int)} {j : Nat} : (P ++ (emit ⟨x0, x2, c.take j⟩ ++ emit ⟨x0, x1, c.drop j⟩)).length = P.length + c.length := by
 rw [List.length_append, List.length_append, emit_len, emit_len, ← List.length_append]
 simp only [List.take_append_drop]
theorem rect_sl {b : Nat} {c d : List Rect} (h : c.length = d.length) : rectR.sl b c = rectR.sl b d := by unfold Rec.sl; rw [h]
structure FS where
 i : Nat
 P : List Rect
 x0 : Int
 w : List (Int × Int)
def FS.out (s : FS) (xs : List Int) : List Rect := if s.i = 0 then [] else s.P ++ emit ⟨s.x0, xs.getD s.i 0, s.w⟩
def FS.was (s : FS) : Value := if s.i = 0 then .slice none 0 0 else iT (ends s.w)
def bnd (i : Nat) : Nat := (i + 1) * 5000
theorem bnd_succ (i : Nat) : bnd (i + 1) = bnd i + 5000 := by unfold bnd; omega
theorem bnd_le {i : Nat} (h : i ≤ 2000) : bnd i ≤ 100000000 := by unfold bnd; omega
def FS.ok (s : FS) (xs : List Int) (S : List Slab) (F : List Rect) : Prop := s.i ≤ S.length ∧ (s.i = 0 → s.P = []) ∧ (s.i ≠ 0 → s.P ++ outT (runs ⟨s.x0, xs.getD s.i 0, s.w⟩ (S.drop s.i)) = F) ∧ s.P.length + s.w.length ≤ bnd s.i ∧ s.w.length ≤ 5000
theorem swp_len (f : Bool → Bool → Bool) : ∀ (A B : List Int) (p q w : Bool), (swp f A B p q w).length ≤ A.length + B.length
 | [], [], _, _, _ => by simp [swp]
 | a :: A, [], p, q, w => by
  have := swp_len f A [] (!p) q (f (!p) q)
  rw [swp, List.length_append]
  split <;> simp at * <;> omega
 | [], b :: B, p, q, w => by
  have := swp_len f [] B p (!q) (f p (!q))
  rw [swp, List.length_append]
  split <;> simp at * <;> omega
 | a :: A, b :: B, p, q, w => by
  have h1 := swp_len f A (b :: B) (!p) q (f (!p) q)
  have h2 := swp_len f (a :: A) B p (!q) (f p (!q))
  have h3 := swp_len f A B (!p) (!q) (f (!p) (!q))
  rw [swp]
  split
  ·rw [List.length_append]; split <;> simp at * <;> omega
  ·split
   ·rw [List.length_append]; split <;> simp at * <;> omega
   ·rw [List.length_append]; split <;> simp at * <;> omega
termination_by A B => A.length + B.length
set_option maxHeartbeats 4000000 in
theorem form_L (k m : Option Bool) (a b : List Rect) (z : Int) (f : Bool → Bool → Bool) (hz : (z = 0 ∧ f = orF) ∨ (z = 1 ∧ f = andF) ∨ (z = 2 ∧ f = subF)) (hk : Rec.Ok k a) (hm : Rec.Ok m b) (hab : a.length + b.length ≤ 1000) (hya : ∀ r ∈ a, r.y0 < r.y1) (hyb : ∀ r ∈ b, r.y0 < r.y1)
  (h : Heap) (lo : Nat) (hlo0 : lo ≤ h.length) :
  L E 18 [rectR.o k a, rectR.o m b, .int .i64 z] h lo = some (rectR.sl h.length (refL f a b), h ++ [rectR.row 30 (refL f a b)]) := by
 have ha : a.length ≤ 1000 := by omega
 have hb : b.length ≤ 1000 := by omega
 have hl1 : ∀ x : AObj, (h ++ [x]).length = h.length + 1 := fun x => by simp
 have hf : f false false = false := by rcases hz with ⟨_, rfl⟩ | ⟨_, rfl⟩ | ⟨_, rfl⟩ <;> rfl
 have ed := edges_spec k m a b hk hm (by omega) (by omega)
 have col : ∀ x, ∃ ca cb, pureCall E.P (L E) 49 [rectR.o k a, .int .i64 x] = some (iT ca) ∧ pureCall E.P (L E) 49 [rectR.o m b, .int .i64 x] = some (iT cb) ∧ pureCall E.P (L E) 48 [iT ca, iT cb, .int .i64 z] = some (iT (ends (refC f a b x))) ∧ (refC f a b x).length ≤ 2000 := fun x => by
  have c1 := rcolumn_spec k a x hk (by omega)
  have c2 := rcolumn_spec m b x hm (by omega)
  rw [ref_col hya] at c1
  rw [ref_col hyb] at c2
  have l1 := Rg.colC_len a x
  have l2 := Rg.colC_len b x
  have l3 := Rg.ends_len (colC a x)
  have l4 := Rg.ends_len (colC b x)
  have c3 := rcombine_spec (ends (colC a x)) (ends (colC b x)) z f hz (by omega) (by omega)
  obtain ⟨q1, q2⟩ := Rg.mergeC_ok f hf (Rg.colC_ok hya x).1 (Rg.colC_ok hyb x).1
  have e := Rg.swp_col f hf (Rg.colC_ok hya x).1 (Rg.colC_ok hyb x).1 q1 q2
  have ll := swp_len f (ends (colC a x)) (ends (colC b x)) false false false
  rw [e] at c3 ll
  rw [Rg.ends_len] at ll
  exact ⟨_, _, c1, c2, c3, by show (mergeC f (colC a x) (colC b x)).length ≤ 2000; omega⟩
 have hxs : (edgesX (a ++ b)).length ≤ 2000 := by
  have := Rg.edgesX_len (a ++ b)
  rw [List.length_append] at this; omega
 have so : ∀ k l, settled depth (rectR.o k l) = true := fun k l => Rec.o_set
 have so2 : ∀ l, settled depth (iT l) = true := fun _ => rfl
 have so3 : ∀ z, settled depth (.int .i64 z) = true := fun _ => rfl
 rw [L_fn F18 rfl]
 simp -implicitDefEqProofs [r18, p18, prep_new, newK_nil s32, ret1 m47, so, ed]
 unfold refL
 generalize hxe : edgesX (a ++ b) = xs at hxs ⊢
 have hSl := Rg.stripL_len (refC f a b) xs
 have hSg := stripL_get (refC f a b) xs
 generalize hSe : stripL (refC f a b) xs = S at hSl hSg ⊢
 generalize hFe : outT (runsF S) = F
 rw [LL_rec (α := FS) ⟨0, [], 0, []⟩ (fun s => [(7, rectR.sl h.length (s.out xs)), (9, s.was), (10, .int .i64 (s.P.length : Int)), (11, .int .i64 (s.i : Int))]) (fun s => (h ++ [rectR.row 30 (s.out xs)]))
  (fun _ => (.exit 0, [(7, rectR.sl h.length F), (9, undef), (10, undef), (11, undef)], (h ++ [rectR.row 30 F]))) (fun s => s.ok xs S F) (fun s => S.length - s.i)]
 ·simp -implicitDefEqProofs [k18_6]
 ·exact ⟨Nat.zero_le _, fun _ => rfl, fun h => absurd rfl h, Nat.zero_le _, Nat.zero_le _⟩
 ·simp -implicitDefEqProofs [k18_6, FS.out, FS.was, Rec.sl_nil]
 ·rfl
 ·intro nx s hI ih
  obtain ⟨i, P, x0, w⟩ := s
  obtain ⟨h1, h2, h3, h4, h5⟩ := hI
  simp only at h1 h2 h3 h4 h5
  have hS2 : S.length ≤ 2000 := by omega
  have hgx : ∀ j (hj : j < xs.length), xs.getD j 0 = xs[j] := fun j hj => by rw [List.getD_eq_getElem?_getD, List.getElem?_eq_getElem hj]; rfl
  by_cases hi : i + 1 < xs.length
  ·obtain ⟨hs, eS⟩ := hSg i hi
   have hdS : S.drop i = ⟨xs[i], xs[i + 1], refC f a b xs[i]⟩ :: S.drop (i + 1) := by rw [List.drop_eq_getElem_cons hs, eS]
   obtain ⟨ca, cb, q1, q2, q3, q4⟩ := col xs[i]
   generalize refC f a b xs[i] = c at q3 q4 hdS
   have w1 : IntKind.i64.wrap ((i : Int) + 1) = ((i + 1 : Nat) : Int) := wrap64 (by omega) (by omega)
   have hii : ((i + 1 : Nat) : Int) < (xs.length : Int) := by omega
   have ix0 := iT_index (l := xs) (i := i) (by omega)
   have ix1 := iT_index (l := xs) (i := i + 1) hi
   have hel := Rg.ends_len c
   have gx0 := hgx i (by omega)
   have gx1 := hgx (i + 1) hi
   by_cases hmg : i ≠ 0 ∧ c ≠ [] ∧ c = w
   ·obtain ⟨hi0, hc0, hcw⟩ := hmg
    subst hcw
    have h3 := h3 hi0
    rw [hdS, Rg.runs_step (s := ⟨x0, xs.getD i 0, c⟩) (u := ⟨xs[i], xs[i + 1], c⟩) rfl] at h3
    have h4' : P.length + c.length ≤ bnd (i + 1) := by rw [bnd_succ]; omega
    have ih := ih ⟨i + 1, P, x0, c⟩ (by show S.length - (i + 1) < S.length - i; omega) ⟨by show i + 1 ≤ S.length; omega, fun h => absurd h (Nat.succ_ne_zero i), fun _ => by show P ++ outT (runs ⟨x0, xs.getD (i + 1) 0, c⟩ (S.drop (i + 1))) = F; rw [gx1]; exact h3, h4', h5⟩
    have eo : FS.out ⟨i, P, x0, c⟩ xs = P ++ emit ⟨x0, xs[i], c⟩ := by unfold FS.out; rw [if_neg hi0, gx0]
    have eo1 : FS.out ⟨i + 1, P, x0, c⟩ xs = P ++ emit ⟨x0, xs[i + 1], c⟩ := by unfold FS.out; rw [if_neg (Nat.succ_ne_zero i), gx1]
    have ew : FS.was ⟨i, P, x0, c⟩ = iT (ends c) := if_neg hi0
    have ew1 : FS.was ⟨i + 1, P, x0, c⟩ = iT (ends c) := if_neg (Nat.succ_ne_zero i)
    simp only [eo1, ew1] at ih
    simp only [eo, ew]
    have hipos : (0 : Int) < (i : Int) := by omega
    have hiposN : 0 < i := by omega
    have hcpos : 0 < c.length := List.length_pos_iff.2 hc0
    have hepos : 0 < (ends c).length := by omega
    have hepos' : (0 : Int) < ((ends c).length : Int) := by omega
    have ci := ints_spec (ends c) (ends c) (by omega)
    rw [decide_eq_true rfl] at ci
    have hlo : (P ++ emit ⟨x0, xs[i], c⟩).length = P.length + c.length := by rw [List.length_append, emit_len]
    simp -implicitDefEqProofs [k18_6] at ih
    simp -implicitDefEqProofs [r18_6, k18_6, iT_len, w1, hii, ix0, ret1 m49, ret1 m48, so, so2, so3, q1, q2, q3, hiposN, hepos, ret0 m50, iT_reify, ci, -Int.natCast_add]
    rw [LL_rec (α := Nat) 0 (fun j => [(13, .int .i64 ((P.length + j : Nat) : Int))]) (fun j => (h ++ [rectR.row 30 (P ++ (emit ⟨x0, xs[i + 1], c.take j⟩ ++ emit ⟨x0, xs[i], c.drop j⟩))]))
     (fun _ => (.exit 2, [(13, undef)], (h ++ [rectR.row 30 (P ++ emit ⟨x0, xs[i + 1], c⟩)]))) (fun j => j ≤ c.length) (fun j => c.length - j)]
    ·have esl : rectR.sl h.length (P ++ emit ⟨x0, xs[i + 1], c⟩) = rectR.sl h.length (P ++ emit ⟨x0, xs[i], c⟩) := rect_sl (by rw [List.length_append, List.length_append, emit_len, emit_len])
     rw [esl] at ih
     simp -implicitDefEqProofs [k18_11, w1, trim_le, -Int.natCast_add]
     exact ih
    ·exact Nat.zero_le _
    ·simp -implicitDefEqProofs [k18_11]
    ·rfl
    ·intro nx j hj ih
     by_cases hjc : j < c.length
     ·have ih := ih (j + 1) (by omega) (by omega)
      have hgt : P.length + j < (P ++ (emit ⟨x0, xs[i + 1], c.take j⟩ ++ emit ⟨x0, xs[i], c.drop j⟩)).length := by rw [out_len]; omega
      have eg : (P ++ (emit ⟨x0, xs[i + 1], c.take j⟩ ++ emit ⟨x0, xs[i], c.drop j⟩))[P.length + j] = ⟨x0, c[j].1, xs[i], c[j].2⟩ := by
       have := out_get (P := P) (x0 := x0) (x1 := xs[i]) (x2 := xs[i + 1]) hjc
       rw [List.getElem?_eq_getElem hgt] at this
       exact Option.some.inj this
      have es := out_set (P := P) (x0 := x0) (x1 := xs[i]) (x2 := xs[i + 1]) hjc
      have esl : rectR.sl h.length (P ++ emit ⟨x0, xs[i], c⟩) = rectR.sl h.length (P ++ (emit ⟨x0, xs[i + 1], c.take j⟩ ++ emit ⟨x0, xs[i], c.drop j⟩)) := rect_sl (by rw [out_len, hlo])
      have w2 : IntKind.i64.wrap (((P.length + j : Nat) : Int) + 1) = ((P.length + (j + 1) : Nat) : Int) := by
       have := bnd_le (i := i) (by omega)
       exact (wrap64 (by omega) (by omega)).trans (by omega)
      have hlt : ((P.length + j : Nat) : Int) < ((P.length + c.length : Nat) : Int) := by omega
      have hltN : P.length + j < P.length + c.length := by omega
      have ixr := Rec.index_row (R := rectR) (h0 := 4) (t := 30) (g := some true) (b := h.length) (l := P ++ (emit ⟨x0, xs[i + 1], c.take j⟩ ++ emit ⟨x0, xs[i], c.drop j⟩)) (i := P.length + j) (k := .i64) rfl hgt
      rw [← esl] at ixr
      have fdr := Rec.field_row (R := rectR) (b := h.length) (n := 0) (f := 2) (l := P ++ (emit ⟨x0, xs[i + 1], c.take j⟩ ++ emit ⟨x0, xs[i], c.drop j⟩)) (i := P.length + j) (k := ⟨some true, some 4⟩) (g := some false)
      have str := Rec.store_cell (R := rectR) (h := (h ++ [rectR.row 30 (P ++ (emit ⟨x0, xs[i + 1], c.take j⟩ ++ emit ⟨x0, xs[i], c.drop j⟩))])) (b := h.length) (j := 2) (lo := lo) (t := 30) (l := P ++ (emit ⟨x0, xs[i + 1], c.take j⟩ ++ emit ⟨x0, xs[i], c.drop j⟩)) (i := P.length + j) (v := .int .i64 xs[i + 1]) (a := ⟨x0, c[j].1, xs[i + 1], c[j].2⟩) rfl end0 hlo0 hgt (by decide) (by rw [eg]; rfl)
      rw [es] at str
      generalize P ++ (emit ⟨x0, xs[i + 1], c.take j⟩ ++ emit ⟨x0, xs[i], c.drop j⟩) = oj at *
      generalize P ++ (emit ⟨x0, xs[i + 1], c.take (j + 1)⟩ ++ emit ⟨x0, xs[i], c.drop (j + 1)⟩) = oj1 at *
      generalize hQ : ((P.length + j : Nat) : Int) = Q at *
      generalize hQ1 : ((P.length + (j + 1) : Nat) : Int) = Q1 at *
      simp -implicitDefEqProofs [k18_11] at ih
      simp -implicitDefEqProofs [r18_11, k18_11, Rec.sl_len, hlo, hlt, w1, w2, ix1, ixr, fdr, str, hl1, trim_le, -Int.natCast_add, -List.length_append]
      exact ih
     ·have e1 : c.take j = c := List.take_of_length_le (by omega)
      have e2 : c.drop j = [] := List.drop_of_length_le (by omega)
      have e3 : emit ⟨x0, xs[i], []⟩ = [] := rfl
      have hlt : ¬ (((P.length + j : Nat) : Int) < ((P.length + c.length : Nat) : Int)) := by omega
      have hltN : ¬ (P.length + j < P.length + c.length) := by omega
      rw [e1, e2, e3, List.append_nil]
      simp -implicitDefEqProofs [r18_11, k18_11, Rec.sl_len, hlo, hlt, hl1, trim_le, -Int.natCast_add, -List.length_append]
   ·have hnx : c = [] ∨ (i ≠ 0 → c ≠ w) := by
     by_cases h0 : c = []
     ·exact .inl h0
     ·exact .inr fun hi0 he => hmg ⟨hi0, h0, he⟩
    obtain ⟨o, ho⟩ : ∃ o, o = FS.out ⟨i, P, x0, w⟩ xs := ⟨_, rfl⟩
    have hol : o.length ≤ bnd i := by
     rw [ho]; unfold FS.out
     split
     ·exact Nat.zero_le _
     ·rw [List.length_append, emit_len]; exact h4
    have hbi := bnd_le (i := i) (by omega)
    have h4' : o.length + c.length ≤ bnd (i + 1) := by rw [bnd_succ]; omega
    have hnew : o ++ outT (runs ⟨xs[i], xs[i + 1], c⟩ (S.drop (i + 1))) = F := by
     rw [ho]; unfold FS.out
     by_cases hi0 : i = 0
     ·rw [if_pos hi0, List.nil_append, ← hFe]
      subst hi0
      rw [List.drop_zero] at hdS
      rw [hdS]; rfl
     ·rw [if_neg hi0]
      have h3 := h3 hi0
      rw [hdS, next_run (s := ⟨xs[i], xs[i + 1], c⟩) (by rcases hnx with h | h; exact .inl h; exact .inr (h hi0)), ← List.append_assoc] at h3
      exact h3
    have ih := ih ⟨i + 1, o, xs[i], c⟩ (by show S.length - (i + 1) < S.length - i; omega) ⟨by show i + 1 ≤ S.length; omega, fun h => absurd h (Nat.succ_ne_zero i), fun _ => by show o ++ outT (runs ⟨xs[i], xs.getD (i + 1) 0, c⟩ (S.drop (i + 1))) = F; rw [gx1]; exact hnew, h4', by show c.length ≤ 5000; omega⟩
    have eo1 : FS.out ⟨i + 1, o, xs[i], c⟩ xs = o ++ emit ⟨xs[i], xs[i + 1], c⟩ := by unfold FS.out; rw [if_neg (Nat.succ_ne_zero i), gx1]
    have ew1 : FS.was ⟨i + 1, o, xs[i], c⟩ = iT (ends c) := if_neg (Nat.succ_ne_zero i)
    simp only [eo1, ew1] at ih
    simp only [← ho]
    simp -implicitDefEqProofs [k18_6, -Int.natCast_add] at ih
    have three : i = 0 ∨ (i ≠ 0 ∧ c = []) ∨ (i ≠ 0 ∧ c ≠ [] ∧ c ≠ w) := by
     by_cases hi0 : i = 0
     ·exact .inl hi0
     ·by_cases hc0 : c = []
      ·exact .inr (.inl ⟨hi0, hc0⟩)
      ·exact .inr (.inr ⟨hi0, hc0, fun e => hmg ⟨hi0, hc0, e⟩⟩)
    have hG : (0 < i ∧ 0 < (ends c).length → FS.was ⟨i, P, x0, w⟩ = iT (ends w) ∧ decide (ends c = ends w) = false) := fun ⟨h, h'⟩ => by
     have hi0 : i ≠ 0 := by omega
     refine ⟨if_neg hi0, decide_eq_false fun e => ?_⟩
     have ecw : c = w := by rw [← Rg.pairs_ends c, e, Rg.pairs_ends]
     rcases hnx with h0 | h0
     ·subst h0; simp [ends] at h'
     ·exact h0 hi0 ecw
    have cw := ints_spec (ends c) (ends w) (by omega)
    generalize FS.was ⟨i, P, x0, w⟩ = wv at hG ⊢
    by_cases gi : 0 < i
    ·by_cases gc : 0 < (ends c).length
     ·obtain ⟨ew, ed⟩ := hG ⟨gi, gc⟩
      rw [ed] at cw
      subst ew
      simp -implicitDefEqProofs [r18_6, k18_6, iT_len, w1, hii, ix0, ret1 m49, ret1 m48, so, so2, so3, q1, q2, q3, gi, gc, ret0 m50, iT_reify, cw, Rec.sl_len, -Int.natCast_add]
      have st17 := fun (o' : List Rect) (j : Nat) (hj : j < c.length) (ho : o'.length ≤ 200000000) => app_rect (h := (h ++ [rectR.row 30 o'])) (b := h.length) (lo := lo) (c := o') ⟨xs[i], c[j].1, xs[i + 1], c[j].2⟩ end0 hlo0 (by omega)
      rw [LL_for (γ := List Rect) c o (fun j o' => [(7, rectR.sl h.length o'), (14, .int .i64 ((2 * j : Nat) : Int))]) (fun _ o' => (h ++ [rectR.row 30 o']))
       (fun _ rest o' => (.exit 4, [(7, rectR.sl h.length (o' ++ emit ⟨xs[i], xs[i + 1], rest⟩)), (14, undef)], (h ++ [rectR.row 30 (o' ++ emit ⟨xs[i], xs[i + 1], rest⟩)]))) (fun j o' => o'.length = o.length + j) (by omega) rfl]
      ·simp -implicitDefEqProofs [k18_17, w1, trim_le, -Int.natCast_add]
       exact ih
      ·simp -implicitDefEqProofs [k18_17]
      ·rfl
      ·intro nx j o' hj _
       have e0 : emit ⟨xs[i], xs[i + 1], []⟩ = [] := rfl
       have w2 : IntKind.i64.wrap (((2 * j : Nat) : Int) + 1) = ((2 * j + 1 : Nat) : Int) := wrap64 (by omega) (by omega)
       have hjn : ¬ (((2 * j + 1 : Nat) : Int) < ((ends c).length : Int)) := by omega
       have hjn' : ¬ (2 * j + 1 < (ends c).length) := by omega
       simp -implicitDefEqProofs [r18_17, k18_17, iT_len, w2, hjn, e0, trim_le, -Int.natCast_add, -Int.natCast_mul]
      ·intro nx j s rest o' hj hv hd hw ho ih
       obtain ⟨g1, g2, g3, g4⟩ := ends_at hj
       have st := st17 o' j hj (by omega)
       rw [hv] at g3 g4 st
       have w2 : IntKind.i64.wrap (((2 * j : Nat) : Int) + 1) = ((2 * j + 1 : Nat) : Int) := wrap64 (by omega) (by omega)
       have w3 : IntKind.i64.wrap (((2 * j : Nat) : Int) + 2) = ((2 * (j + 1) : Nat) : Int) := (wrap64 (by omega) (by omega)).trans (by omega)
       have hjn : ((2 * j + 1 : Nat) : Int) < ((ends c).length : Int) := by omega
       have ixa := iT_index (l := ends c) (i := 2 * j) g1
       have ixb := iT_index (l := ends c) (i := 2 * j + 1) g2
       rw [g3] at ixa
       rw [g4] at ixb
       have ih := ih (o' ++ [⟨xs[i], s.1, xs[i + 1], s.2⟩]) (by rw [List.length_append]; show o'.length + 1 = _; omega)
       rw [emit_cons, ← List.append_assoc]
       simp -implicitDefEqProofs [k18_17, -List.append_assoc, -Int.natCast_add, -Int.natCast_mul] at ih
       simp -implicitDefEqProofs [r18_17, k18_17, iT_len, w1, w2, w3, hjn, ix0, ix1, ixa, ixb, b4_all, lit_rect, st, hl1, trim_le, -List.append_assoc, -Int.natCast_add, -Int.natCast_mul]
       exact ih
     ·simp -implicitDefEqProofs [r18_6, k18_6, iT_len, w1, hii, ix0, ret1 m49, ret1 m48, so, so2, so3, q1, q2, q3, gi, gc, Rec.sl_len, -Int.natCast_add]
      have st17 := fun (o' : List Rect) (j : Nat) (hj : j < c.length) (ho : o'.length ≤ 200000000) => app_rect (h := (h ++ [rectR.row 30 o'])) (b := h.length) (lo := lo) (c := o') ⟨xs[i], c[j].1, xs[i + 1], c[j].2⟩ end0 hlo0 (by omega)
      rw [LL_for (γ := List Rect) c o (fun j o' => [(7, rectR.sl h.length o'), (14, .int .i64 ((2 * j : Nat) : Int))]) (fun _ o' => (h ++ [rectR.row 30 o']))
       (fun _ rest o' => (.exit 4, [(7, rectR.sl h.length (o' ++ emit ⟨xs[i], xs[i + 1], rest⟩)), (14, undef)], (h ++ [rectR.row 30 (o' ++ emit ⟨xs[i], xs[i + 1], rest⟩)]))) (fun j o' => o'.length = o.length + j) (by omega) rfl]
      ·simp -implicitDefEqProofs [k18_17, w1, trim_le, -Int.natCast_add]
       exact ih
      ·simp -implicitDefEqProofs [k18_17]
      ·rfl
      ·intro nx j o' hj _
       have e0 : emit ⟨xs[i], xs[i + 1], []⟩ = [] := rfl
       have w2 : IntKind.i64.wrap (((2 * j : Nat) : Int) + 1) = ((2 * j + 1 : Nat) : Int) := wrap64 (by omega) (by omega)
       have hjn : ¬ (((2 * j + 1 : Nat) : Int) < ((ends c).length : Int)) := by omega
       have hjn' : ¬ (2 * j + 1 < (ends c).length) := by omega
       simp -implicitDefEqProofs [r18_17, k18_17, iT_len, w2, hjn, e0, trim_le, -Int.natCast_add, -Int.natCast_mul]
      ·intro nx j s rest o' hj hv hd hw ho ih
       obtain ⟨g1, g2, g3, g4⟩ := ends_at hj
       have st := st17 o' j hj (by omega)
       rw [hv] at g3 g4 st
       have w2 : IntKind.i64.wrap (((2 * j : Nat) : Int) + 1) = ((2 * j + 1 : Nat) : Int) := wrap64 (by omega) (by omega)
       have w3 : IntKind.i64.wrap (((2 * j : Nat) : Int) + 2) = ((2 * (j + 1) : Nat) : Int) := (wrap64 (by omega) (by omega)).trans (by omega)
       have hjn : ((2 * j + 1 : Nat) : Int) < ((ends c).length : Int) := by omega
       have ixa := iT_index (l := ends c) (i := 2 * j) g1
       have ixb := iT_index (l := ends c) (i := 2 * j + 1) g2
       rw [g3] at ixa
       rw [g4] at ixb
       have ih := ih (o' ++ [⟨xs[i], s.1, xs[i + 1], s.2⟩]) (by rw [List.length_append]; show o'.length + 1 = _; omega)
       rw [emit_cons, ← List.append_assoc]
       simp -implicitDefEqProofs [k18_17, -List.append_assoc, -Int.natCast_add, -Int.natCast_mul] at ih
       simp -implicitDefEqProofs [r18_17, k18_17, iT_len, w1, w2, w3, hjn, ix0, ix1, ixa, ixb, b4_all, lit_rect, st, hl1, trim_le, -List.append_assoc, -Int.natCast_add, -Int.natCast_mul]
       exact ih
    ·simp -implicitDefEqProofs [r18_6, k18_6, iT_len, w1, hii, ix0, ret1 m49, ret1 m48, so, so2, so3, q1, q2, q3, gi, Rec.sl_len, -Int.natCast_add]
     have st17 := fun (o' : List Rect) (j : Nat) (hj : j < c.length) (ho : o'.length ≤ 200000000) => app_rect (h := (h ++ [rectR.row 30 o'])) (b := h.length) (lo := lo) (c := o') ⟨xs[i], c[j].1, xs[i + 1], c[j].2⟩ end0 hlo0 (by omega)
     rw [LL_for (γ := List Rect) c o (fun j o' => [(7, rectR.sl h.length o'), (14, .int .i64 ((2 * j : Nat) : Int))]) (fun _ o' => (h ++ [rectR.row 30 o']))
      (fun _ rest o' => (.exit 4, [(7, rectR.sl h.length (o' ++ emit ⟨xs[i], xs[i + 1], rest⟩)), (14, undef)], (h ++ [rectR.row 30 (o' ++ emit ⟨xs[i], xs[i + 1], rest⟩)]))) (fun j o' => o'.length = o.length + j) (by omega) rfl]
     ·simp -implicitDefEqProofs [k18_17, w1, trim_le, -Int.natCast_add]
      exact ih
     ·simp -implicitDefEqProofs [k18_17]
     ·rfl
     ·intro nx j o' hj _
      have e0 : emit ⟨xs[i], xs[i + 1], []⟩ = [] := rfl
      have w2 : IntKind.i64.wrap (((2 * j : Nat) : Int) + 1) = ((2 * j + 1 : Nat) : Int) := wrap64 (by omega) (by omega)
      have hjn : ¬ (((2 * j + 1 : Nat) : Int) < ((ends c).length : Int)) := by omega
      have hjn' : ¬ (2 * j + 1 < (ends c).length) := by omega
      simp -implicitDefEqProofs [r18_17, k18_17, iT_len, w2, hjn, e0, trim_le, -Int.natCast_add, -Int.natCast_mul]
     ·intro nx j s rest o' hj hv hd hw ho ih
      obtain ⟨g1, g2, g3, g4⟩ := ends_at hj
      have st := st17 o' j hj (by omega)
      rw [hv] at g3 g4 st
      have w2 : IntKind.i64.wrap (((2 * j : Nat) : Int) + 1) = ((2 * j + 1 : Nat) : Int) := wrap64 (by omega) (by omega)
      have w3 : IntKind.i64.wrap (((2 * j : Nat) : Int) + 2) = ((2 * (j + 1) : Nat) : Int) := (wrap64 (by omega) (by omega)).trans (by omega)
      have hjn : ((2 * j + 1 : Nat) : Int) < ((ends c).length : Int) := by omega
      have ixa := iT_index (l := ends c) (i := 2 * j) g1
      have ixb := iT_index (l := ends c) (i := 2 * j + 1) g2
      rw [g3] at ixa
      rw [g4] at ixb
      have ih := ih (o' ++ [⟨xs[i], s.1, xs[i + 1], s.2⟩]) (by rw [List.length_append]; show o'.length + 1 = _; omega)
      rw [emit_cons, ← List.append_assoc]
      simp -implicitDefEqProofs [k18_17, -List.append_assoc, -Int.natCast_add, -Int.natCast_mul] at ih
      simp -implicitDefEqProofs [r18_17, k18_17, iT_len, w1, w2, w3, hjn, ix0, ix1, ixa, ixb, b4_all, lit_rect, st, hl1, trim_le, -List.append_assoc, -Int.natCast_add, -Int.natCast_mul]
      exact ih
  ·have hfin : i = S.length := by omega
   have hout : FS.out ⟨i, P, x0, w⟩ xs = F := by
    unfold FS.out
    by_cases hi0 : i = 0
    ·rw [if_pos hi0, ← hFe]
     have : S = [] := List.eq_nil_of_length_eq_zero (by omega)
     rw [this]; rfl
    ·rw [if_neg hi0]
     have h3 := h3 hi0
     rw [List.drop_of_length_le (by omega), Rg.runs_end] at h3
     exact h3
   have w1 : IntKind.i64.wrap ((i : Int) + 1) = ((i + 1 : Nat) : Int) := wrap64 (by omega) (by omega)
   have hii : ¬ (((i + 1 : Nat) : Int) < (xs.length : Int)) := by omega
   rw [hout]
   simp -implicitDefEqProofs [r18_6, k18_6, iT_len, w1, hii, trim_le, -Int.natCast_add]
end Go.Proofs.YtibmcdmlpobanaaGreat.Bm
namespace Go.Proofs.YtibmcdmlpobanaaGreat.Bm
open Go Go.RowKit
open Rg (Rect cell ofL opL)
theorem ref_of {l : List Rect} (hl : ∀ r ∈ l, r.y0 < r.y1) : refL orF l [] = ofL l := by
 obtain ⟨h1, h2⟩ := refL_ok orF rfl hl (fun r hr => absurd hr List.not_mem_nil)
 refine h1.ext (Rg.ofL_ok hl).1 fun x y => ?_
 rw [h2, (Rg.ofL_ok hl).2]
 exact Bool.or_false _
theorem ref_op (f : Bool → Bool → Bool) (hf : f false false = false) {a b : List Rect} (ha : ∀ r ∈ a, r.y0 < r.y1) (hb : ∀ r ∈ b, r.y0 < r.y1) : refL f a b = opL f a b := by
 obtain ⟨h1, h2⟩ := refL_ok f hf ha hb
 obtain ⟨h3, h4⟩ := Rg.opL_ok f hf ha hb
 exact h1.ext h3 fun x y => by rw [h2, h4]
theorem rright_spec (r : Rect) : pureCall E.P (L E) 17 [rectR.val r] = some (.bool (okR r)) := by
 rw [pureCall_fn F17 rfl]
 simp -implicitDefEqProofs [r17, padS, rect_val]
 unfold okR
 by_cases h1 : 0 ≤ r.x0
 case neg => simp -implicitDefEqProofs [h1]
 by_cases h2 : r.x0 < r.x1
 case neg => simp -implicitDefEqProofs [h1, h2]
 by_cases h3 : r.x1 ≤ 1048576
 case neg => simp -implicitDefEqProofs [h1, h2, h3]
 by_cases h4 : 0 ≤ r.y0
 case neg => simp -implicitDefEqProofs [h1, h2, h3, h4]
 by_cases h5 : r.y0 < r.y1
 case neg => simp -implicitDefEqProofs [h1, h2, h3, h4, h5]
 simp -implicitDefEqProofs [h1, h2, h3, h4, h5]
theorem rright_s (r : Rect) : pureCall E.P (L E) 17 [.agg ⟨[.int .i64 r.x0, .int .i64 r.y0, .int .i64 r.x1, .int .i64 r.y1]⟩] = some (.bool (okR r)) := rright_spec r
theorem form_p (k m : Option Bool) (a b : List Rect) (z : Int) (f : Bool → Bool → Bool) (hz : (z = 0 ∧ f = orF) ∨ (z = 1 ∧ f = andF) ∨ (z = 2 ∧ f = subF)) (hk : Rec.Ok k a) (hm : Rec.Ok m b) (hab : a.length + b.length ≤ 1000) (hya : ∀ r ∈ a, r.y0 < r.y1) (hyb : ∀ r ∈ b, r.y0 < r.y1) :
  pureCall E.P (L E) 18 [rectR.o k a, rectR.o m b, .int .i64 z] = some (lst false (rectR.vals (refL f a b))) := by
 have rr := Rec.reify_row (R := rectR) (P := E.P) (h := [rectR.row 30 (refL f a b)]) (b := 0) (n := 7) (t := 30) (l := refL f a b) rfl s32 a32
 show ((L E 18 [rectR.o k a, rectR.o m b, .int .i64 z] [] 0).bind _) = _
 rw [form_L k m a b z f hz hk hm hab hya hyb [] 0 (Nat.le_refl _)]
 exact rr
theorem rof_spec (k : Option Bool) (l : List Rect) (hk : Rec.Ok k l) (hl : l.length ≤ 1000000) : pureCall E.P (L E) 6 [rectR.o k l] = some (resL (ofR l)) := by
 rw [pureCall_fn F6 rfl]
 simp -implicitDefEqProofs [r6, padS]
 rw [LL_for (γ := Unit) l () (fun i _ => [(4, .int .i64 i)]) (fun _ _ => []) (fun _ rest _ => if rest.all okR then (.exit 0, [(4, undef)], []) else (.ret, [(2, .slice none 0 0), (3, .int .i64 1), (4, undef)], [])) (fun _ _ => True) (by omega) trivial]
 ·unfold ofR
  cases ha : l.all okR
  ·simp -implicitDefEqProofs [k6_2, resL]
  ·by_cases h4 : 400 < l.length
   ·have h4i : 400 < (l.length : Int) := by omega
    simp -implicitDefEqProofs [k6_2, resL, h4, h4i, Rec.o_len hk]
   ·have h4' : ¬ (400 < (l.length : Int)) := by omega
    have hy := ofL_ok' ha
    have fs := form_p k none l [] 0 orF (.inl ⟨rfl, rfl⟩) hk (fun _ => rfl) (by show l.length + 0 ≤ 1000; omega) hy (fun r hr => absurd hr List.not_mem_nil)
    rw [ref_of hy] at fs
    have ll : ∀ h, lenT .sl h (lst false (rectR.vals (ofL l))) = some (.int .i64 (ofL l).length) := fun h => Rec.tree_len
    have en : rectR.o none ([] : List Rect) = .slice none 0 0 := rfl
    rw [en] at fs
    have so : settled depth (rectR.o k l) = true := Rec.o_set
    have so2 : settled depth (.slice none 0 0) = true := rfl
    have so3 : settled depth (.int .i64 0) = true := rfl
    by_cases h2 : (ofL l).length ≤ 200
    ·have h2' : ¬ (200 < ((ofL l).length : Int)) := by omega
     simp -implicitDefEqProofs [k6_2, resL, h4, h4', Rec.o_len hk, ret1 m18, so, so2, so3, fs, ll, h2, h2']
    ·have h2' : 200 < ((ofL l).length : Int) := by omega
     simp -implicitDefEqProofs [k6_2, resL, h4, h4', Rec.o_len hk, ret1 m18, so, so2, so3, fs, ll, h2, h2']
 ·simp -implicitDefEqProofs [k6_2]
 ·rfl
 ·intro nx i c hi _
  simp -implicitDefEqProofs [r6_2, k6_2, hi, Rec.o_len hk, trim_le]
 ·intro nx i r rest c hi hv hd hw _ ih
  have ih := ih () trivial
  have ixi := Rec.o_index (R := rectR) (t := 30) (kk := .i64) (s := 4) rfl hk hi
  rw [hv] at ixi
  have hr := rright_s r
  cases h : okR r
  ·simp -implicitDefEqProofs [r6_2, k6_2, hi, ixi, Rec.o_len hk, rect_val, ret0 m17, hr, h, trim_le]
  ·simp -implicitDefEqProofs [k6_2] at ih
   simp -implicitDefEqProofs [r6_2, k6_2, hi, ixi, Rec.o_len hk, rect_val, ret0 m17, hr, h, hw, trim_le]
   exact ih
theorem rright2_spec (k : Option Bool) (l : List Rect) (hk : Rec.Ok k l) (hl : l.length ≤ 1000000) : pureCall E.P (L E) 29 [rectR.o k l] = some (.bool (regB l)) := by
 have ho := rof_spec k l hk hl
 have so : settled depth (rectR.o k l) = true := Rec.o_set
 rw [pureCall_fn F29 rfl]
 unfold regB
 have hle : ∀ m, ofR l = .ok m → m.length ≤ 200 := fun m h => by
  unfold ofR at h
  split at h
  ·split at h
   ·cases h
   ·split at h
    ·cases h; assumption
    ·cases h
  ·cases h
 have hne : ∀ e, ofR l = .error e → e = 1 ∨ e = 6 := fun m h => by
  unfold ofR at h
  split at h
  ·split at h
   ·cases h; exact .inr rfl
   ·split at h
    ·cases h
    ·cases h; exact .inr rfl
  ·cases h; exact .inl rfl
 cases h : ofR l with
 | error e =>
  rw [h] at ho
  have e0 : ¬ (e = 0) := by have := hne e h; omega
  simp only [resL] at ho
  simp -implicitDefEqProofs [r29, p29, ret1 m6, so, ho, e0]
 | ok m =>
  rw [h] at ho
  have he := same_rects (some false) k m l Rec.ok_some hk (by have := hle m h; omega)
  rw [show rectR.o (some false) m = lst false (rectR.vals m) from rfl] at he
  simp only [resL] at ho
  simp -implicitDefEqProofs [r29, p29, ret1 m6, so, ho, ret0 m7, Rec.o_reify, he]
theorem rhas_spec (k : Option Bool) (l : List Rect) (x y : Int) (hk : Rec.Ok k l) (hl : l.length ≤ 1000000) : pureCall E.P (L E) 32 [rectR.o k l, .int .i64 x, .int .i64 y] = some (.bool (regB l && cell l x y)) := by
 have hr := rright2_spec k l hk hl
 rw [pureCall_fn F32 rfl]
 cases h0 : regB l
 ·simp -implicitDefEqProofs [r32, p32, ret0 m29, Rec.o_reify, hr, h0]
 simp -implicitDefEqProofs [r32, p32, ret0 m29, Rec.o_reify, hr, h0]
 rw [LL_for (γ := Unit) l () (fun i _ => [(7, .int .i64 i)]) (fun _ _ => []) (fun _ rest _ => if cell rest x y then (.ret, [(6, .bool true), (7, undef)], []) else (.exit 0, [(7, undef)], [])) (fun _ _ => True) (by omega) trivial]
 ·cases h : cell l x y <;> simp -implicitDefEqProofs [k32_4]
 ·simp -implicitDefEqProofs [k32_4]
 ·rfl
 ·intro nx i c hi _
  simp -implicitDefEqProofs [r32_4, k32_4, hi, Rec.o_len hk, trim_le, cell]
 ·intro nx i r rest c hi hv hd hw _ ih
  have ih := ih () trivial
  have ixi := Rec.o_index (R := rectR) (t := 30) (kk := .i64) (s := 4) rfl hk hi
  rw [hv] at ixi
  have e : cell (r :: rest) x y = (r.has x y || cell rest x y) := rfl
  have eh : r.has x y = (decide (r.x0 ≤ x) && decide (x < r.x1) && (decide (r.y0 ≤ y) && decide (y < r.y1))) := rfl
  rw [e, eh]
  simp -implicitDefEqProofs [k32_4] at ih
  by_cases h1 : r.x0 ≤ x
  case neg =>
   simp -implicitDefEqProofs [r32_4, k32_4, hi, ixi, Rec.o_len hk, rect_val, h1, hw, trim_le]
   exact ih
  by_cases h2 : x < r.x1
  case neg =>
   simp -implicitDefEqProofs [r32_4, k32_4, hi, ixi, Rec.o_len hk, rect_val, h1, h2, hw, trim_le]
   exact ih
  by_cases h3 : r.y0 ≤ y
  case neg =>
   simp -implicitDefEqProofs [r32_4, k32_4, hi, ixi, Rec.o_len hk, rect_val, h1, h2, h3, hw, trim_le]
   exact ih
  by_cases h4 : y < r.y1
  case neg =>
   simp -implicitDefEqProofs [r32_4, k32_4, hi, ixi, Rec.o_len hk, rect_val, h1, h2, h3, h4, hw, trim_le]
   exact ih
  simp -implicitDefEqProofs [r32_4, k32_4, hi, ixi, Rec.o_len hk, rect_val, h1, h2, h3, h4, trim_le]
end Go.Proofs.YtibmcdmlpobanaaGreat.Bm
namespace Go.Proofs.YtibmcdmlpobanaaGreat.Rg
def gapX (r s : Rect) : Int := max r.x0 s.x0 - min r.x1 s.x1
def gapY (r s : Rect) : Int := max r.y0 s.y0 - min r.y1 s.y1
def touchB (r s : Rect) : Bool := (decide (gapX r s = 0) && decide (gapY r s < 0)) || (decide (gapY r s = 0) && decide (gapX r s < 0))
def absorb : Nat → Nat → List Rect → List Rect → List Rect × List Rect
 | 0, _, part, left => (part, left)
 | n + 1, i, part, left => match part[i]? with
  | none => (part, left)
  | some r => absorb n (i + 1) (part ++ left.filter (touchB r)) (left.filter fun s => !touchB r s)
theorem filter_both {α : Type} (p : α → Bool) : ∀ l : List α, (l.filter p).length + (l.filter fun a => !p a).length = l.length
 | [] => rfl
 | a :: l => by
  have ih := filter_both p l
  cases h : p a
  ·rw [List.filter_cons_of_neg (by simp [h]), List.filter_cons_of_pos (by simp [h]), List.length_cons, List.length_cons]; omega
  ·rw [List.filter_cons_of_pos h, List.filter_cons_of_neg (by simp [h]), List.length_cons, List.length_cons]; omega
theorem absorb_len : ∀ (n i : Nat) (part left : List Rect), (absorb n i part left).1.length + (absorb n i part left).2.length = part.length + left.length
 | 0, _, _, _ => rfl
 | n + 1, i, part, left => by
  unfold absorb
  cases h : part[i]? with
  | none => rfl
  | some r =>
   simp only
   rw [absorb_len n, List.length_append]
   have := filter_both (touchB r) left
   omega
theorem absorb_part : ∀ (n i : Nat) (part left : List Rect), ∃ t, (absorb n i part left).1 = part ++ t
 | 0, _, part, _ => ⟨[], (List.append_nil part).symm⟩
 | n + 1, i, part, left => by
  unfold absorb
  cases h : part[i]? with
  | none => exact ⟨[], (List.append_nil part).symm⟩
  | some r =>
   obtain ⟨t, e⟩ := absorb_part n (i + 1) (part ++ left.filter (touchB r)) (left.filter fun s => !touchB r s)
   exact ⟨left.filter (touchB r) ++ t, by simp only; rw [e, List.append_assoc]⟩
def partsF : Nat → List Rect → List (List Rect)
 | 0, _ => []
 | _ + 1, [] => []
 | n + 1, r :: l => (absorb (l.length + 2) 0 [r] l).1 :: partsF n (absorb (l.length + 2) 0 [r] l).2
def partsL (a : List Rect) : List (List Rect) := partsF a.length a
theorem absorb_more : ∀ (n m i : Nat) (part left : List Rect), part.length + left.length ≤ i + n → n ≤ m → absorb m i part left = absorb n i part left
 | 0, m, i, part, left, h, _ => by
  cases m with
  | zero => rfl
  | succ m =>
   have : part[i]? = none := List.getElem?_eq_none (by omega)
   unfold absorb
   rw [this]
 | n + 1, m, i, part, left, h, hm => by
  obtain ⟨m, rfl⟩ : ∃ m', m = m' + 1 := ⟨m - 1, by omega⟩
  unfold absorb
  cases hp : part[i]? with
  | none => rfl
  | some r =>
   simp only
   have := filter_both (touchB r) left
   exact absorb_more n m (i + 1) _ _ (by rw [List.length_append]; omega) (by omega)
theorem partsF_more : ∀ (n m : Nat) (a : List Rect), a.length ≤ n → n ≤ m → partsF m a = partsF n a
 | 0, m, a, h, _ => by
  have : a = [] := List.eq_nil_of_length_eq_zero (by omega)
  subst this
  cases m <;> rfl
 | n + 1, m, [], _, _ => by cases m <;> rfl
 | n + 1, m, r :: l, h, hm => by
  obtain ⟨m, rfl⟩ : ∃ m', m = m' + 1 := ⟨m - 1, by omega⟩
  unfold partsF
  obtain ⟨t, e⟩ := absorb_part (l.length + 2) 0 [r] l
  have hl := absorb_len (l.length + 2) 0 [r] l
  rw [e, List.length_append, List.length_singleton] at hl
  rw [List.length_cons] at h
  rw [partsF_more n m _ (by omega) (by omega)]
section
variable {f : Rect → Rect} (hf : ∀ r s, touchB (f r) (f s) = touchB r s)
include hf
end
end Go.Proofs.YtibmcdmlpobanaaGreat.Rg
namespace Go.Proofs.YtibmcdmlpobanaaGreat.Bm
open Go Go.RowKit
theorem LL_ex {k : List Nat × List Nat} {b : Body} {σ₀ : Slots} {h₀ : Heap} {α : Type} (a₀ : α) (up : α → List (Nat × Value)) (H : α → Heap) (Q : Exit × Slots × Heap → Prop) (I : α → Prop) (ms : α → Nat)
  (hI : I a₀) (e0 : sets (up a₀) (forget k.1 σ₀) = forget k.1 σ₀) (e1 : H a₀ = h₀)
  (step : ∀ (nx : Body) a, I a → (∀ a', ms a' < ms a → I a' → ∃ r, nx (sets (up a') (forget k.1 σ₀)) (H a') = some r ∧ Q r) →
   ∃ r, lopK k.1 k.2 nx (H a).length (b (forget k.1 (sets (up a) (forget k.1 σ₀))) (H a)) = some r ∧ Q r) :
  ∃ r, LL k b σ₀ h₀ = some r ∧ Q r := by
 have key : ∀ n a, ms a = n → I a → ∃ r, LL k b (sets (up a) (forget k.1 σ₀)) (H a) = some r ∧ Q r := by
  intro n
  induction n using Nat.strongRecOn with
  | _ n ih =>
   intro a ha hi
   rw [LL_go]
   exact step (LL k b) a hi fun a' hlt hi' => ih (ms a') (by omega) a' rfl hi'
 have h := key _ a₀ rfl hI
 rw [e0, e1] at h
 have e : LL k b (forget k.1 σ₀) h₀ = LL k b σ₀ h₀ := by
  rw [LL_go, LL_go, forget_twice]
 rw [e] at h
 exact h
end Go.Proofs.YtibmcdmlpobanaaGreat.Bm
namespace Go.Proofs.YtibmcdmlpobanaaGreat.Bm
open Go Go.RowKit
open Rg (Rect touchB gapX gapY)
theorem min_int6 (a b : Int) : aMinMax false [.int .i64 a, .int .i64 b] = some (.int .i64 (min a b)) := by
 show some (Value.int .i64 (if b < a then b else a)) = _
 congr 2
 omega
theorem gaps6 (r s : Rect) (hr : okR r = true) (hs : okR s = true) : pureCall E.P (L E) 63 [.agg ⟨[.int .i64 r.x0, .int .i64 r.y0, .int .i64 r.x1, .int .i64 r.y1]⟩, .agg ⟨[.int .i64 s.x0, .int .i64 s.y0, .int .i64 s.x1, .int .i64 s.y1]⟩] = some (.tuple ⟨[.int .i64 (gapX r s), .int .i64 (gapY r s)]⟩) := by
 have hb := okR_iff.1 hr
 have hc := okR_iff.1 hs
 unfold Rect.inBox at hb hc
 unfold gapX gapY
 have w1 : IntKind.i64.wrap (max r.x0 s.x0 - min r.x1 s.x1) = max r.x0 s.x0 - min r.x1 s.x1 := wrap64 (by omega) (by omega)
 have w2 : IntKind.i64.wrap (max r.y0 s.y0 - min r.y1 s.y1) = max r.y0 s.y0 - min r.y1 s.y1 := wrap64 (by omega) (by omega)
 rw [pureCall_fn F63 rfl]
 simp -implicitDefEqProofs [r63, padS, min_int6, max_int, w1, w2]
theorem touch6 (r s : Rect) (hr : okR r = true) (hs : okR s = true) : pureCall E.P (L E) 39 [.agg ⟨[.int .i64 r.x0, .int .i64 r.y0, .int .i64 r.x1, .int .i64 r.y1]⟩, .agg ⟨[.int .i64 s.x0, .int .i64 s.y0, .int .i64 s.x1, .int .i64 s.y1]⟩] = some (.bool (touchB r s)) := by
 have q1 := right_s r
 have q2 := right_s s
 rw [hr] at q1
 rw [hs] at q2
 have g := gaps6 r s hr hs
 unfold touchB
 generalize gapX r s = x at *
 generalize gapY r s = y at *
 rw [pureCall_fn F39 rfl]
 by_cases h1 : x = 0
 ·by_cases h2 : y < 0
  ·have h3 : ¬ y = 0 := by omega
   simp -implicitDefEqProofs [r39, p39, ret0 m13, q1, q2, ret0 m63, g, h1, h2, h3]
  ·by_cases h3 : y = 0
   ·simp -implicitDefEqProofs [r39, p39, ret0 m13, q1, q2, ret0 m63, g, h1, h3]
   ·simp -implicitDefEqProofs [r39, p39, ret0 m13, q1, q2, ret0 m63, g, h1, h2, h3]
 ·by_cases h3 : y = 0
  ·by_cases h4 : x < 0
   ·simp -implicitDefEqProofs [r39, p39, ret0 m13, q1, q2, ret0 m63, g, h1, h3, h4]
   ·simp -implicitDefEqProofs [r39, p39, ret0 m13, q1, q2, ret0 m63, g, h1, h3, h4]
  ·simp -implicitDefEqProofs [r39, p39, ret0 m13, q1, q2, ret0 m63, g, h1, h3]
def ptr (b : Nat) : Value := .pointer (some ⟨b, 0, none⟩)
def cellV (t : TypeId) (v : Value) : AObj := .cells t [v] 0
def boxR (r : Rect) : AObj := .cells 30 [.int .i64 r.x0, .int .i64 r.y0, .int .i64 r.x1, .int .i64 r.y1] 0
theorem cell_load {h : Heap} {b : Nat} {t : TypeId} {v : Value} {sz : Option Nat} (hb : h[b]? = some (cellV t v)) : loadT ⟨some false, sz⟩ h (ptr b) = some v := by
 unfold ptr
 rw [load_one]
 unfold rowOf
 show ((match h[b]? with | some (.cells _ c g) => _ | _ => none) : Option (List Value)).bind _ = _
 rw [hb]; rfl
theorem cell_store {h : Heap} {b lo : Nat} {t : TypeId} {u v : Value} (hb : h[b]? = some (cellV t u)) (hlo : lo ≤ b) (hv : cellsOf v = some [v]) : storeT (some 1) h lo v (ptr b) = some (h.set b (cellV t v)) := by
 unfold ptr
 rw [store_ptr, hv, Option.bind_some, if_pos (show 1 = [v].length from rfl)]
 unfold wrN
 show (match h[b]? with | some (.cells t c g) => _ | _ => none) = _
 rw [hb]
 show (if _ then _ else none) = _
 rw [if_pos ⟨hlo, rfl, by simp, by simp⟩]; rfl
theorem get_app {h : Heap} {q : AObj} {b : Nat} {o : AObj} (hb : h[b]? = some o) : (h ++ [q])[b]? = some o := by
 have : b < h.length := (List.getElem?_eq_some_iff.1 hb).1
 rw [List.getElem?_append_left this, hb]
theorem gather_no {h : Heap} {lo bc bi i : Nat} {pv : Value} {part : List Rect} (s : Rect) (hc : h[bc]? = some (cellV 22 pv)) (hi : h[bi]? = some (cellV 3 (.int .i64 i))) (hip : i < part.length)
  (hp : pv = lst true (rectR.vals part) ∨ ∃ bp, pv = rectR.sl bp part ∧ h[bp]? = some (rectR.row 30 part)) (hr : okR part[i] = true) (hs : okR s = true) (ht : touchB part[i] s = false) :
  L E 38 [rectR.val s, ptr bc, ptr bi] h lo = some (.bool false, h ++ [boxR s]) := by
 have tc := touch6 part[i] s hr hs
 rw [ht] at tc
 have lc := cell_load (sz := some 1) (get_app (q := boxR s) hc)
 have li := cell_load (sz := some 1) (get_app (q := boxR s) hi)
 have hidx : ∃ a, indexAddrT (.sl 30 ⟨some true, some 4⟩) pv (.int .i64 (i : Int)) = some a ∧ loadT ⟨some true, some 4⟩ (h ++ [boxR s]) a = some (rectR.val part[i]) := by
  rcases hp with rfl | ⟨bp, rfl, hbp⟩
  ·exact ⟨_, Rec.index_tree rfl hip, rfl⟩
  ·exact ⟨_, Rec.index_row (R := rectR) rfl hip, Rec.load_row (R := rectR) rfl (get_app hbp) hip⟩
 obtain ⟨a, ia, la⟩ := hidx
 rw [rect_val] at la
 rw [L_fn F38 rfl]
 unfold boxR at *
 simp -implicitDefEqProofs [r38, padS, rect_val, lc, li, ia, la, ret0 m39, tc]
theorem get_set {h : Heap} {b c : Nat} {q o : AObj} (hb : h[b]? = some o) (hne : b ≠ c) : (h.set c q)[b]? = some o := by
 rw [List.getElem?_set_ne (Ne.symm hne)]; exact hb
theorem get_setE {h : Heap} {b : Nat} {q : AObj} (hb : b < h.length) : (h.set b q)[b]? = some q := by
 rw [List.getElem?_set_self hb]
theorem o_cell (b : Nat) (l : List Rect) : cellsOf (rectR.sl b l) = some [rectR.sl b l] := rfl
theorem gather_new {h : Heap} {lo bc bi i : Nat} {part : List Rect} (s : Rect) (hc : h[bc]? = some (cellV 22 (lst true (rectR.vals part)))) (hi : h[bi]? = some (cellV 3 (.int .i64 i))) (hip : i < part.length) (hl : part.length ≤ 1000000)
  (hlo : lo ≤ bc) (hr : okR part[i] = true) (hs : okR s = true) (ht : touchB part[i] s = true) :
  L E 38 [rectR.val s, ptr bc, ptr bi] h lo = some (.bool true, (h ++ [boxR s, rectR.row 30 (part ++ [s])]).set bc (cellV 22 (rectR.sl (h.length + 1) (part ++ [s])))) := by
 have tc := touch6 part[i] s hr hs
 rw [ht] at tc
 have lc := cell_load (sz := some 1) (get_app (q := boxR s) hc)
 have li := cell_load (sz := some 1) (get_app (q := boxR s) hi)
 have ia : indexAddrT (.sl 30 ⟨some true, some 4⟩) (lst true (rectR.vals part)) (.int .i64 (i : Int)) = some (cptr (rectR.val part[i])) := Rec.index_tree rfl hip
 have hlc : (h ++ [boxR s]).length = h.length + 1 := by simp
 have ap : appendT (some ⟨30, 4, 32, .agg ⟨[.int .i64 0, .int .i64 0, .int .i64 0, .int .i64 0]⟩, ⟨some true, some 4⟩⟩) (h ++ [boxR s]) lo false (lst true (rectR.vals part)) (lst true (rectR.vals [s])) = some (rectR.sl (h.length + 1) (part ++ [s]), h ++ [boxR s, rectR.row 30 (part ++ [s])]) := by
  have ct : sliceCells (h ++ [boxR s]) 4 (lst true (rectR.vals [s])) = some (rectR.flat [s], 1) := Rec.cells_tree (R := rectR) rfl [s]
  rw [append_lst]
  show ((sliceCells (h ++ [boxR s]) 4 (lst true (rectR.vals [s]))).bind _) = _
  rw [ct, Option.bind_some]
  show (if (1 : Nat) = 0 then _ else _) = _
  rw [if_neg (by decide)]
  have hv : (rectR.vals part).length = part.length := Rec.vals_len
  rw [if_pos ⟨Rec.vals_all part, by rw [hv]; show (part.length + 1) * 32 ≤ 2 ^ 47; omega⟩]
  rw [Rec.vals_flat, ← Rec.flat_app, hlc, hv]
  unfold Rec.sl Rec.row
  rw [Rec.flat_len, List.length_append, List.append_assoc]; rfl
 have hc2 : (h ++ [boxR s, rectR.row 30 (part ++ [s])])[bc]? = some (cellV 22 (lst true (rectR.vals part))) := by
  have : bc < h.length := (List.getElem?_eq_some_iff.1 hc).1
  rw [List.getElem?_append_left this, hc]
 have st := cell_store (lo := lo) (v := rectR.sl (h.length + 1) (part ++ [s])) hc2 hlo (o_cell _ _)
 rw [L_fn F38 rfl]
 rw [show rectR.vals [s] = [.agg ⟨[.int .i64 s.x0, .int .i64 s.y0, .int .i64 s.x1, .int .i64 s.y1]⟩] from rfl] at ap
 unfold boxR at *
 simp -implicitDefEqProofs [r38, padS, rect_val, lc, li, ia, ret0 m39, tc, lit_rect, ap, st, -append_lst]
theorem gather_more {h : Heap} {lo bc bi bp i : Nat} {part : List Rect} (s : Rect) (hc : h[bc]? = some (cellV 22 (rectR.sl bp part))) (hi : h[bi]? = some (cellV 3 (.int .i64 i))) (hbp : h[bp]? = some (rectR.row 30 part)) (hip : i < part.length) (hl : part.length ≤ 1000000)
  (hne : bc ≠ bp) (hlo : lo ≤ bc) (hlp : lo ≤ bp) (hr : okR part[i] = true) (hs : okR s = true) (ht : touchB part[i] s = true) :
  L E 38 [rectR.val s, ptr bc, ptr bi] h lo = some (.bool true, ((h ++ [boxR s]).set bp (rectR.row 30 (part ++ [s]))).set bc (cellV 22 (rectR.sl bp (part ++ [s])))) := by
 have tc := touch6 part[i] s hr hs
 rw [ht] at tc
 have lc := cell_load (sz := some 1) (get_app (q := boxR s) hc)
 have li := cell_load (sz := some 1) (get_app (q := boxR s) hi)
 have ia := Rec.index_row (R := rectR) (h0 := 4) (t := 30) (g := some true) (b := bp) (k := .i64) rfl hip
 have la := Rec.load_row (R := rectR) (n := 4) rfl (get_app (q := boxR s) hbp) hip
 rw [rect_val] at la
 have ap := app_rect (h := h ++ [boxR s]) (b := bp) (lo := lo) (c := part) s (get_app (q := boxR s) hbp) hlp (by omega)
 have hc2 := get_set (q := rectR.row 30 (part ++ [s])) (get_app (q := boxR s) hc) hne
 have st := cell_store (lo := lo) (v := rectR.sl bp (part ++ [s])) hc2 hlo (o_cell _ _)
 rw [L_fn F38 rfl]
 unfold boxR at *
 simp -implicitDefEqProofs [r38, padS, rect_val, lc, li, ia, la, ret0 m39, tc, lit_rect, ap, st]
end Go.Proofs.YtibmcdmlpobanaaGreat.Bm
