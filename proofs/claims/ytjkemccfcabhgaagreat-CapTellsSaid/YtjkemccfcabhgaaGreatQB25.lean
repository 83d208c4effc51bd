/-
 Chapter 32: what volumes load caps with, by the reference, walked. Conditions: lists that are not too long.
-/
import Derived.Test.YtjkemccfcabhgaaGreatQB24
import Derived.Test.YtjkemccfcabhgaaGreatQB23
namespace Go.Proofs.YtjkemccfcabhgaaGreat.Bm
open Go Go.RowKit
open Rg (Rect Slab runs runsF outT emit stripL mergeC colC edgesX ends swp cell)
def refC (f : Bool → Bool → Bool) (a b : List Rect) (x : Int) : List (Int × Int) := mergeC f (colC a x) (colC b x)
def refL (f : Bool → Bool → Bool) (a b : List Rect) : List Rect := outT (runsF (stripL (refC f a b) (edgesX (a ++ b))))
theorem refC_ok (f : Bool → Bool → Bool) (hf : f false false = false) {a b : List Rect} (ha : ∀ r ∈ a, r.y0 < r.y1) (hb : ∀ r ∈ b, r.y0 < r.y1) (x : Int) : Rg.Can (refC f a b x) ∧ ∀ y, Rg.hasS (refC f a b x) y = f (cell a x y) (cell b x y) := by
 obtain ⟨h1, h2⟩ := Rg.mergeC_ok f hf (Rg.colC_ok ha x).1 (Rg.colC_ok hb x).1
 refine ⟨h1, fun y => ?_⟩
 rw [show Rg.hasS (refC f a b x) y = _ from h2 y, (Rg.colC_ok ha x).2, (Rg.colC_ok hb x).2]
theorem refL_ok (f : Bool → Bool → Bool) (hf : f false false = false) {a b : List Rect} (ha : ∀ r ∈ a, r.y0 < r.y1) (hb : ∀ r ∈ b, r.y0 < r.y1) : Rg.Form (refL f a b) ∧ ∀ x y, cell (refL f a b) x y = f (cell a x y) (cell b x y) := by
 have h1 : Rg.Steps (a ++ b) (cell a) := (Rg.cell_steps a).mono fun r hr => List.mem_append_left _ hr
 have h2 : Rg.Steps (a ++ b) (cell b) := (Rg.cell_steps b).mono fun r hr => List.mem_append_right _ hr
 exact Rg.strips_form (h1.op h2 f hf) (Rg.sortU_asc _) (Rg.edgesX_all _) (refC f a b) (fun x => (refC_ok f hf ha hb x).1) fun x _ y => (refC_ok f hf ha hb x).2 y
theorem next_run {x0 x1 : Int} {w : List (Int × Int)} {s : Slab} {T : List Slab} (h : s.col = [] ∨ s.col ≠ w) : outT (runs ⟨x0, x1, w⟩ (s :: T)) = emit ⟨x0, x1, w⟩ ++ outT (runs s T) := by
 by_cases e : s.col = w
 ·have h0 : s.col = [] := h.resolve_right fun h => h e
  have hw : w = [] := by rw [← e, h0]
  subst hw
  rw [Rg.runs_none (s := ⟨x0, x1, []⟩) rfl, Rg.emit_nil (s := ⟨x0, x1, []⟩) rfl]; rfl
 ·exact Rg.runs_stop (s := ⟨x0, x1, w⟩) e
theorem stripL_get (c : Int → List (Int × Int)) : ∀ (xs : List Int) (i : Nat) (h : i + 1 < xs.length), ∃ hs : i < (stripL c xs).length, (stripL c xs)[i] = ⟨xs[i], xs[i + 1], c xs[i]⟩
 | [], i, h => by simp at h
 | [_], i, h => by simp at h
 | a :: b :: xs, 0, _ => ⟨Nat.succ_pos _, rfl⟩
 | a :: b :: xs, i + 1, h => by
  obtain ⟨hs, e⟩ := stripL_get c (b :: xs) i (by simpa using h)
  exact ⟨Nat.succ_lt_succ hs, e⟩
theorem emit_len (s : Slab) : (emit s).length = s.col.length := List.length_map _
theorem emit_app (x0 x1 : Int) (c d : List (Int × Int)) : emit ⟨x0, x1, c ++ d⟩ = emit ⟨x0, x1, c⟩ ++ emit ⟨x0, x1, d⟩ := List.map_append
theorem ends_even : ∀ {c : List (Int × Int)} {j : Nat} (hj : j < c.length), (ends c)[2 * j]? = some c[j].1 ∧ (ends c)[2 * j + 1]? = some c[j].2
 | [], j, hj => by simp at hj
 | s :: c, 0, _ => ⟨rfl, rfl⟩
 | s :: c, j + 1, hj => ends_even (c := c) (j := j) (by simpa using hj)
theorem ends_at {c : List (Int × Int)} {j : Nat} (hj : j < c.length) : ∃ (h1 : 2 * j < (ends c).length) (h2 : 2 * j + 1 < (ends c).length), (ends c)[2 * j] = c[j].1 ∧ (ends c)[2 * j + 1] = c[j].2 := by
 have hl := Rg.ends_len c
 obtain ⟨e1, e2⟩ := ends_even hj
 refine ⟨by omega, by omega, ?_, ?_⟩
 ·rw [List.getElem?_eq_getElem (by omega)] at e1; exact Option.some.inj e1
 ·rw [List.getElem?_eq_getElem (by omega)] at e2; exact Option.some.inj e2
theorem out_get {P : List Rect} {x0 x1 x2 : Int} {c : List (Int × Int)} {j : Nat} (hj : j < c.length) :
  (P ++ (emit ⟨x0, x2, c.take j⟩ ++ emit ⟨x0, x1, c.drop j⟩))[P.length + j]? = some ⟨x0, c[j].1, x1, c[j].2⟩ := by
 rw [List.getElem?_append_right (by omega), Nat.add_sub_cancel_left, List.getElem?_append_right (by rw [emit_len]; simp; omega)]
 have e : (emit ⟨x0, x2, c.take j⟩).length = j := by rw [emit_len]; simp; omega
 rw [e, Nat.sub_self, List.drop_eq_getElem_cons hj]; rfl
theorem out_set {P : List Rect} {x0 x1 x2 : Int} {c : List (Int × Int)} {j : Nat} (hj : j < c.length) :
  (P ++ (emit ⟨x0, x2, c.take j⟩ ++ emit ⟨x0, x1, c.drop j⟩)).set (P.length + j) ⟨x0, c[j].1, x2, c[j].2⟩ = P ++ (emit ⟨x0, x2, c.take (j + 1)⟩ ++ emit ⟨x0, x1, c.drop (j + 1)⟩) := by
 have e : (emit ⟨x0, x2, c.take j⟩).length = j := by rw [emit_len]; simp; omega
 rw [List.set_append_right _ _ (by omega), Nat.add_sub_cancel_left, List.set_append_right _ _ (by omega), e, Nat.sub_self, List.drop_eq_getElem_cons hj, List.take_succ_eq_append_getElem hj, emit_app, List.append_assoc]
 rfl
theorem out_len {P : List Rect} {x0 x1 x2 : Int} {c : List (Int × Int)} {j : Nat} : (P ++ (emit ⟨x0, x2, c.take j⟩ ++ emit ⟨x0, x1, c.drop j⟩)).length = P.length + c.length := by
 rw [List.length_append, List.length_append, emit_len, emit_len, ← List.length_append]
 simp only [List.take_append_drop]
theorem rect_sl {b : Nat} {c d : List Rect} (h : c.length = d.length) : rectR.sl b c = rectR.sl b d := by unfold Rec.sl; rw [h]
structure FS where
 i : Nat
 P : List Rect
 x0 : Int
 w : List (Int × Int)
def FS.out (s : FS) (xs : List Int) : List Rect := if s.i = 0 then [] else s.P ++ emit ⟨s.x0, xs.getD s.i 0, s.w⟩
def FS.was (s : FS) : Value := if s.i = 0 then .slice none 0 0 else iT (ends s.w)
def bnd (i : Nat) : Nat := (i + 1) * 5000
theorem bnd_succ (i : Nat) : bnd (i + 1) = bnd i + 5000 := by unfold bnd; omega
theorem bnd_le {i : Nat} (h : i ≤ 2000) : bnd i ≤ 100000000 := by unfold bnd; omega
def FS.ok (s : FS) (xs : List Int) (S : List Slab) (F : List Rect) : Prop := s.i ≤ S.length ∧ (s.i = 0 → s.P = []) ∧ (s.i ≠ 0 → s.P ++ outT (runs ⟨s.x0, xs.getD s.i 0, s.w⟩ (S.drop s.i)) = F) ∧ s.P.length + s.w.length ≤ bnd s.i ∧ s.w.length ≤ 5000
theorem swp_len (f : Bool → Bool → Bool) : ∀ (A B : List Int) (p q w : Bool), (swp f A B p q w).length ≤ A.length + B.length
 | [], [], _, _, _ => by simp [swp]
 | a :: A, [], p, q, w => by
  have := swp_len f A [] (!p) q (f (!p) q)
  rw [swp, List.length_append]
  split <;> simp at * <;> omega
 | [], b :: B, p, q, w => by
  have := swp_len f [] B p (!q) (f p (!q))
  rw [swp, List.length_append]
  split <;> simp at * <;> omega
 | a :: A, b :: B, p, q, w => by
  have h1 := swp_len f A (b :: B) (!p) q (f (!p) q)
  have h2 := swp_len f (a :: A) B p (!q) (f p (!q))
  have h3 := swp_len f A B (!p) (!q) (f (!p) (!q))
  rw [swp]
  split
  ·rw [List.length_append]; split <;> simp at * <;> omega
  ·split
   ·rw [List.length_append]; split <;> simp at * <;> omega
   ·rw [List.length_append]; split <;> simp at * <;> omega
termination_by A B => A.length + B.length
set_option maxHeartbeats 4000000 in
theorem form_L (k m : Option Bool) (a b : List Rect) (z : Int) (f : Bool → Bool → Bool) (hz : (z = 0 ∧ f = orF) ∨ (z = 1 ∧ f = andF) ∨ (z = 2 ∧ f = subF)) (hk : Rec.Ok k a) (hm : Rec.Ok m b) (hab : a.length + b.length ≤ 1000) (hya : ∀ r ∈ a, r.y0 < r.y1) (hyb : ∀ r ∈ b, r.y0 < r.y1)
  (h : Heap) (lo : Nat) (hlo0 : lo ≤ h.length) :
  L E 45 [rectR.o k a, rectR.o m b, .int .i64 z] h lo = some (rectR.sl h.length (refL f a b), h ++ [rectR.row 71 (refL f a b)]) := by
 have ha : a.length ≤ 1000 := by omega
 have hb : b.length ≤ 1000 := by omega
 have hl1 : ∀ x : AObj, (h ++ [x]).length = h.length + 1 := fun x => by simp
 have hf : f false false = false := by rcases hz with ⟨_, rfl⟩ | ⟨_, rfl⟩ | ⟨_, rfl⟩ <;> rfl
 have ed := edges_spec k m a b hk hm (by omega) (by omega)
 have col : ∀ x, ∃ ca cb, pureCall E.P (L E) 69 [rectR.o k a, .int .i64 x] = some (iT ca) ∧ pureCall E.P (L E) 69 [rectR.o m b, .int .i64 x] = some (iT cb) ∧ pureCall E.P (L E) 68 [iT ca, iT cb, .int .i64 z] = some (iT (ends (refC f a b x))) ∧ (refC f a b x).length ≤ 2000 := fun x => by
  have c1 := rcolumn_spec k a x hk (by omega)
  have c2 := rcolumn_spec m b x hm (by omega)
  rw [ref_col hya] at c1
  rw [ref_col hyb] at c2
  have l1 := Rg.colC_len a x
  have l2 := Rg.colC_len b x
  have l3 := Rg.ends_len (colC a x)
  have l4 := Rg.ends_len (colC b x)
  have c3 := rcombine_spec (ends (colC a x)) (ends (colC b x)) z f hz (by omega) (by omega)
  obtain ⟨q1, q2⟩ := Rg.mergeC_ok f hf (Rg.colC_ok hya x).1 (Rg.colC_ok hyb x).1
  have e := Rg.swp_col f hf (Rg.colC_ok hya x).1 (Rg.colC_ok hyb x).1 q1 q2
  have ll := swp_len f (ends (colC a x)) (ends (colC b x)) false false false
  rw [e] at c3 ll
  rw [Rg.ends_len] at ll
  exact ⟨_, _, c1, c2, c3, by show (mergeC f (colC a x) (colC b x)).length ≤ 2000; omega⟩
 have hxs : (edgesX (a ++ b)).length ≤ 2000 := by
  have := Rg.edgesX_len (a ++ b)
  rw [List.length_append] at this; omega
 have so : ∀ k l, settled depth (rectR.o k l) = true := fun k l => Rec.o_set
 have so2 : ∀ l, settled depth (iT l) = true := fun _ => rfl
 have so3 : ∀ z, settled depth (.int .i64 z) = true := fun _ => rfl
 rw [L_fn F45 rfl]
 simp -implicitDefEqProofs [r45, p45, prep_new, newK_nil s32, ret1 m67, so, ed]
 unfold refL
 generalize hxe : edgesX (a ++ b) = xs at hxs ⊢
 have hSl := Rg.stripL_len (refC f a b) xs
 have hSg := stripL_get (refC f a b) xs
 generalize hSe : stripL (refC f a b) xs = S at hSl hSg ⊢
 generalize hFe : outT (runsF S) = F
 rw [LL_rec (α := FS) ⟨0, [], 0, []⟩ (fun s => [(7, rectR.sl h.length (s.out xs)), (9, s.was), (10, .int .i64 (s.P.length : Int)), (11, .int .i64 (s.i : Int))]) (fun s => (h ++ [rectR.row 71 (s.out xs)]))
  (fun _ => (.exit 0, [(7, rectR.sl h.length F), (9, undef), (10, undef), (11, undef)], (h ++ [rectR.row 71 F]))) (fun s => s.ok xs S F) (fun s => S.length - s.i)]
 ·simp -implicitDefEqProofs [k45_6]
 ·exact ⟨Nat.zero_le _, fun _ => rfl, fun h => absurd rfl h, Nat.zero_le _, Nat.zero_le _⟩
 ·simp -implicitDefEqProofs [k45_6, FS.out, FS.was, Rec.sl_nil]
 ·rfl
 ·intro nx s hI ih
  obtain ⟨i, P, x0, w⟩ := s
  obtain ⟨h1, h2, h3, h4, h5⟩ := hI
  simp only at h1 h2 h3 h4 h5
  have hS2 : S.length ≤ 2000 := by omega
  have hgx : ∀ j (hj : j < xs.length), xs.getD j 0 = xs[j] := fun j hj => by rw [List.getD_eq_getElem?_getD, List.getElem?_eq_getElem hj]; rfl
  by_cases hi : i + 1 < xs.length
  ·obtain ⟨hs, eS⟩ := hSg i hi
   have hdS : S.drop i = ⟨xs[i], xs[i + 1], refC f a b xs[i]⟩ :: S.drop (i + 1) := by rw [List.drop_eq_getElem_cons hs, eS]
   obtain ⟨ca, cb, q1, q2, q3, q4⟩ := col xs[i]
   generalize refC f a b xs[i] = c at q3 q4 hdS
   have w1 : IntKind.i64.wrap ((i : Int) + 1) = ((i + 1 : Nat) : Int) := wrap64 (by omega) (by omega)
   have hii : ((i + 1 : Nat) : Int) < (xs.length : Int) := by omega
   have ix0 := iT_index (l := xs) (i := i) (by omega)
   have ix1 := iT_index (l := xs) (i := i + 1) hi
   have hel := Rg.ends_len c
   have gx0 := hgx i (by omega)
   have gx1 := hgx (i + 1) hi
   by_cases hmg : i ≠ 0 ∧ c ≠ [] ∧ c = w
   ·obtain ⟨hi0, hc0, hcw⟩ := hmg
    subst hcw
    have h3 := h3 hi0
    rw [hdS, Rg.runs_step (s := ⟨x0, xs.getD i 0, c⟩) (u := ⟨xs[i], xs[i + 1], c⟩) rfl] at h3
    have h4' : P.length + c.length ≤ bnd (i + 1) := by rw [bnd_succ]; omega
    have ih := ih ⟨i + 1, P, x0, c⟩ (by show S.length - (i + 1) < S.length - i; omega) ⟨by show i + 1 ≤ S.length; omega, fun h => absurd h (Nat.succ_ne_zero i), fun _ => by show P ++ outT (runs ⟨x0, xs.getD (i + 1) 0, c⟩ (S.drop (i + 1))) = F; rw [gx1]; exact h3, h4', h5⟩
    have eo : FS.out ⟨i, P, x0, c⟩ xs = P ++ emit ⟨x0, xs[i], c⟩ := by unfold FS.out; rw [if_neg hi0, gx0]
    have eo1 : FS.out ⟨i + 1, P, x0, c⟩ xs = P ++ emit ⟨x0, xs[i + 1], c⟩ := by unfold FS.out; rw [if_neg (Nat.succ_ne_zero i), gx1]
    have ew : FS.was ⟨i, P, x0, c⟩ = iT (ends c) := if_neg hi0
    have ew1 : FS.was ⟨i + 1, P, x0, c⟩ = iT (ends c) := if_neg (Nat.succ_ne_zero i)
    simp only [eo1, ew1] at ih
    simp only [eo, ew]
    have hipos : (0 : Int) < (i : Int) := by omega
    have hiposN : 0 < i := by omega
    have hcpos : 0 < c.length := List.length_pos_iff.2 hc0
    have hepos : 0 < (ends c).length := by omega
    have hepos' : (0 : Int) < ((ends c).length : Int) := by omega
    have ci := ints_spec (ends c) (ends c) (by omega)
    rw [decide_eq_true rfl] at ci
    have hlo : (P ++ emit ⟨x0, xs[i], c⟩).length = P.length + c.length := by rw [List.length_append, emit_len]
    simp -implicitDefEqProofs [k45_6] at ih
    simp -implicitDefEqProofs [r45_6, k45_6, iT_len, w1, hii, ix0, ret1 m69, ret1 m68, so, so2, so3, q1, q2, q3, hiposN, hepos, ret0 m70, iT_reify, ci, -Int.natCast_add]
    rw [LL_rec (α := Nat) 0 (fun j => [(13, .int .i64 ((P.length + j : Nat) : Int))]) (fun j => (h ++ [rectR.row 71 (P ++ (emit ⟨x0, xs[i + 1], c.take j⟩ ++ emit ⟨x0, xs[i], c.drop j⟩))]))
     (fun _ => (.exit 2, [(13, undef)], (h ++ [rectR.row 71 (P ++ emit ⟨x0, xs[i + 1], c⟩)]))) (fun j => j ≤ c.length) (fun j => c.length - j)]
    ·have esl : rectR.sl h.length (P ++ emit ⟨x0, xs[i + 1], c⟩) = rectR.sl h.length (P ++ emit ⟨x0, xs[i], c⟩) := rect_sl (by rw [List.length_append, List.length_append, emit_len, emit_len])
     rw [esl] at ih
     simp -implicitDefEqProofs [k45_11, w1, trim_le, -Int.natCast_add]
     exact ih
    ·exact Nat.zero_le _
    ·simp -implicitDefEqProofs [k45_11]
    ·rfl
    ·intro nx j hj ih
     by_cases hjc : j < c.length
     ·have ih := ih (j + 1) (by omega) (by omega)
      have hgt : P.length + j < (P ++ (emit ⟨x0, xs[i + 1], c.take j⟩ ++ emit ⟨x0, xs[i], c.drop j⟩)).length := by rw [out_len]; omega
      have eg : (P ++ (emit ⟨x0, xs[i + 1], c.take j⟩ ++ emit ⟨x0, xs[i], c.drop j⟩))[P.length + j] = ⟨x0, c[j].1, xs[i], c[j].2⟩ := by
       have := out_get (P := P) (x0 := x0) (x1 := xs[i]) (x2 := xs[i + 1]) hjc
       rw [List.getElem?_eq_getElem hgt] at this
       exact Option.some.inj this
      have es := out_set (P := P) (x0 := x0) (x1 := xs[i]) (x2 := xs[i + 1]) hjc
      have esl : rectR.sl h.length (P ++ emit ⟨x0, xs[i], c⟩) = rectR.sl h.length (P ++ (emit ⟨x0, xs[i + 1], c.take j⟩ ++ emit ⟨x0, xs[i], c.drop j⟩)) := rect_sl (by rw [out_len, hlo])
      have w2 : IntKind.i64.wrap (((P.length + j : Nat) : Int) + 1) = ((P.length + (j + 1) : Nat) : Int) := by
       have := bnd_le (i := i) (by omega)
       exact (wrap64 (by omega) (by omega)).trans (by omega)
      have hlt : ((P.length + j : Nat) : Int) < ((P.length + c.length : Nat) : Int) := by omega
      have hltN : P.length + j < P.length + c.length := by omega
      have ixr := Rec.index_row (R := rectR) (h0 := 4) (t := 71) (g := some true) (b := h.length) (l := P ++ (emit ⟨x0, xs[i + 1], c.take j⟩ ++ emit ⟨x0, xs[i], c.drop j⟩)) (i := P.length + j) (k := .i64) rfl hgt
      rw [← esl] at ixr
      have fdr := Rec.field_row (R := rectR) (b := h.length) (n := 0) (f := 2) (l := P ++ (emit ⟨x0, xs[i + 1], c.take j⟩ ++ emit ⟨x0, xs[i], c.drop j⟩)) (i := P.length + j) (k := ⟨some true, some 4⟩) (g := some false)
      have str := Rec.store_cell (R := rectR) (h := (h ++ [rectR.row 71 (P ++ (emit ⟨x0, xs[i + 1], c.take j⟩ ++ emit ⟨x0, xs[i], c.drop j⟩))])) (b := h.length) (j := 2) (lo := lo) (t := 71) (l := P ++ (emit ⟨x0, xs[i + 1], c.take j⟩ ++ emit ⟨x0, xs[i], c.drop j⟩)) (i := P.length + j) (v := .int .i64 xs[i + 1]) (a := ⟨x0, c[j].1, xs[i + 1], c[j].2⟩) rfl end0 hlo0 hgt (by decide) (by rw [eg]; rfl)
      rw [es] at str
      generalize P ++ (emit ⟨x0, xs[i + 1], c.take j⟩ ++ emit ⟨x0, xs[i], c.drop j⟩) = oj at *
      generalize P ++ (emit ⟨x0, xs[i + 1], c.take (j + 1)⟩ ++ emit ⟨x0, xs[i], c.drop (j + 1)⟩) = oj1 at *
      generalize hQ : ((P.length + j : Nat) : Int) = Q at *
      generalize hQ1 : ((P.length + (j + 1) : Nat) : Int) = Q1 at *
      simp -implicitDefEqProofs [k45_11] at ih
      simp -implicitDefEqProofs [r45_11, k45_11, Rec.sl_len, hlo, hlt, w1, w2, ix1, ixr, fdr, str, hl1, trim_le, -Int.natCast_add, -List.length_append]
      exact ih
     ·have e1 : c.take j = c := List.take_of_length_le (by omega)
      have e2 : c.drop j = [] := List.drop_of_length_le (by omega)
      have e3 : emit ⟨x0, xs[i], []⟩ = [] := rfl
      have hlt : ¬ (((P.length + j : Nat) : Int) < ((P.length + c.length : Nat) : Int)) := by omega
      have hltN : ¬ (P.length + j < P.length + c.length) := by omega
      rw [e1, e2, e3, List.append_nil]
      simp -implicitDefEqProofs [r45_11, k45_11, Rec.sl_len, hlo, hlt, hl1, trim_le, -Int.natCast_add, -List.length_append]
   ·have hnx : c = [] ∨ (i ≠ 0 → c ≠ w) := by
     by_cases h0 : c = []
     ·exact .inl h0
     ·exact .inr fun hi0 he => hmg ⟨hi0, h0, he⟩
    obtain ⟨o, ho⟩ : ∃ o, o = FS.out ⟨i, P, x0, w⟩ xs := ⟨_, rfl⟩
    have hol : o.length ≤ bnd i := by
     rw [ho]; unfold FS.out
     split
     ·exact Nat.zero_le _
     ·rw [List.length_append, emit_len]; exact h4
    have hbi := bnd_le (i := i) (by omega)
    have h4' : o.length + c.length ≤ bnd (i + 1) := by rw [bnd_succ]; omega
    have hnew : o ++ outT (runs ⟨xs[i], xs[i + 1], c⟩ (S.drop (i + 1))) = F := by
     rw [ho]; unfold FS.out
     by_cases hi0 : i = 0
     ·rw [if_pos hi0, List.nil_append, ← hFe]
      subst hi0
      rw [List.drop_zero] at hdS
      rw [hdS]; rfl
     ·rw [if_neg hi0]
      have h3 := h3 hi0
      rw [hdS, next_run (s := ⟨xs[i], xs[i + 1], c⟩) (by rcases hnx with h | h; exact .inl h; exact .inr (h hi0)), ← List.append_assoc] at h3
      exact h3
    have ih := ih ⟨i + 1, o, xs[i], c⟩ (by show S.length - (i + 1) < S.length - i; omega) ⟨by show i + 1 ≤ S.length; omega, fun h => absurd h (Nat.succ_ne_zero i), fun _ => by show o ++ outT (runs ⟨xs[i], xs.getD (i + 1) 0, c⟩ (S.drop (i + 1))) = F; rw [gx1]; exact hnew, h4', by show c.length ≤ 5000; omega⟩
    have eo1 : FS.out ⟨i + 1, o, xs[i], c⟩ xs = o ++ emit ⟨xs[i], xs[i + 1], c⟩ := by unfold FS.out; rw [if_neg (Nat.succ_ne_zero i), gx1]
    have ew1 : FS.was ⟨i + 1, o, xs[i], c⟩ = iT (ends c) := if_neg (Nat.succ_ne_zero i)
    simp only [eo1, ew1] at ih
    simp only [← ho]
    simp -implicitDefEqProofs [k45_6, -Int.natCast_add] at ih
    have three : i = 0 ∨ (i ≠ 0 ∧ c = []) ∨ (i ≠ 0 ∧ c ≠ [] ∧ c ≠ w) := by
     by_cases hi0 : i = 0
     ·exact .inl hi0
     ·by_cases hc0 : c = []
      ·exact .inr (.inl ⟨hi0, hc0⟩)
      ·exact .inr (.inr ⟨hi0, hc0, fun e => hmg ⟨hi0, hc0, e⟩⟩)
    have hG : (0 < i ∧ 0 < (ends c).length → FS.was ⟨i, P, x0, w⟩ = iT (ends w) ∧ decide (ends c = ends w) = false) := fun ⟨h, h'⟩ => by
     have hi0 : i ≠ 0 := by omega
     refine ⟨if_neg hi0, decide_eq_false fun e => ?_⟩
     have ecw : c = w := by rw [← Rg.pairs_ends c, e, Rg.pairs_ends]
     rcases hnx with h0 | h0
     ·subst h0; simp [ends] at h'
     ·exact h0 hi0 ecw
    have cw := ints_spec (ends c) (ends w) (by omega)
    generalize FS.was ⟨i, P, x0, w⟩ = wv at hG ⊢
    by_cases gi : 0 < i
    ·by_cases gc : 0 < (ends c).length
     ·obtain ⟨ew, ed⟩ := hG ⟨gi, gc⟩
      rw [ed] at cw
      subst ew
      simp -implicitDefEqProofs [r45_6, k45_6, iT_len, w1, hii, ix0, ret1 m69, ret1 m68, so, so2, so3, q1, q2, q3, gi, gc, ret0 m70, iT_reify, cw, Rec.sl_len, -Int.natCast_add]
      have st17 := fun (o' : List Rect) (j : Nat) (hj : j < c.length) (ho : o'.length ≤ 200000000) => app_rect (h := (h ++ [rectR.row 71 o'])) (b := h.length) (lo := lo) (c := o') ⟨xs[i], c[j].1, xs[i + 1], c[j].2⟩ end0 hlo0 (by omega)
      rw [LL_for (γ := List Rect) c o (fun j o' => [(7, rectR.sl h.length o'), (14, .int .i64 ((2 * j : Nat) : Int))]) (fun _ o' => (h ++ [rectR.row 71 o']))
       (fun _ rest o' => (.exit 4, [(7, rectR.sl h.length (o' ++ emit ⟨xs[i], xs[i + 1], rest⟩)), (14, undef)], (h ++ [rectR.row 71 (o' ++ emit ⟨xs[i], xs[i + 1], rest⟩)]))) (fun j o' => o'.length = o.length + j) (by omega) rfl]
      ·simp -implicitDefEqProofs [k45_17, w1, trim_le, -Int.natCast_add]
       exact ih
      ·simp -implicitDefEqProofs [k45_17]
      ·rfl
      ·intro nx j o' hj _
       have e0 : emit ⟨xs[i], xs[i + 1], []⟩ = [] := rfl
       have w2 : IntKind.i64.wrap (((2 * j : Nat) : Int) + 1) = ((2 * j + 1 : Nat) : Int) := wrap64 (by omega) (by omega)
       have hjn : ¬ (((2 * j + 1 : Nat) : Int) < ((ends c).length : Int)) := by omega
       have hjn' : ¬ (2 * j + 1 < (ends c).length) := by omega
       simp -implicitDefEqProofs [r45_17, k45_17, iT_len, w2, hjn, e0, trim_le, -Int.natCast_add, -Int.natCast_mul]
      ·intro nx j s rest o' hj hv hd hw ho ih
       obtain ⟨g1, g2, g3, g4⟩ := ends_at hj
       have st := st17 o' j hj (by omega)
       rw [hv] at g3 g4 st
       have w2 : IntKind.i64.wrap (((2 * j : Nat) : Int) + 1) = ((2 * j + 1 : Nat) : Int) := wrap64 (by omega) (by omega)
       have w3 : IntKind.i64.wrap (((2 * j : Nat) : Int) + 2) = ((2 * (j + 1) : Nat) : Int) := (wrap64 (by omega) (by omega)).trans (by omega)
       have hjn : ((2 * j + 1 : Nat) : Int) < ((ends c).length : Int) := by omega
       have ixa := iT_index (l := ends c) (i := 2 * j) g1
       have ixb := iT_index (l := ends c) (i := 2 * j + 1) g2
       rw [g3] at ixa
       rw [g4] at ixb
       have ih := ih (o' ++ [⟨xs[i], s.1, xs[i + 1], s.2⟩]) (by rw [List.length_append]; show o'.length + 1 = _; omega)
       rw [emit_cons, ← List.append_assoc]
       simp -implicitDefEqProofs [k45_17, -List.append_assoc, -Int.natCast_add, -Int.natCast_mul] at ih
       simp -implicitDefEqProofs [r45_17, k45_17, iT_len, w1, w2, w3, hjn, ix0, ix1, ixa, ixb, b4_all, lit_rect, st, hl1, trim_le, -List.append_assoc, -Int.natCast_add, -Int.natCast_mul]
       exact ih
     ·simp -implicitDefEqProofs [r45_6, k45_6, iT_len, w1, hii, ix0, ret1 m69, ret1 m68, so, so2, so3, q1, q2, q3, gi, gc, Rec.sl_len, -Int.natCast_add]
      have st17 := fun (o' : List Rect) (j : Nat) (hj : j < c.length) (ho : o'.length ≤ 200000000) => app_rect (h := (h ++ [rectR.row 71 o'])) (b := h.length) (lo := lo) (c := o') ⟨xs[i], c[j].1, xs[i + 1], c[j].2⟩ end0 hlo0 (by omega)
      rw [LL_for (γ := List Rect) c o (fun j o' => [(7, rectR.sl h.length o'), (14, .int .i64 ((2 * j : Nat) : Int))]) (fun _ o' => (h ++ [rectR.row 71 o']))
       (fun _ rest o' => (.exit 4, [(7, rectR.sl h.length (o' ++ emit ⟨xs[i], xs[i + 1], rest⟩)), (14, undef)], (h ++ [rectR.row 71 (o' ++ emit ⟨xs[i], xs[i + 1], rest⟩)]))) (fun j o' => o'.length = o.length + j) (by omega) rfl]
      ·simp -implicitDefEqProofs [k45_17, w1, trim_le, -Int.natCast_add]
       exact ih
      ·simp -implicitDefEqProofs [k45_17]
      ·rfl
      ·intro nx j o' hj _
       have e0 : emit ⟨xs[i], xs[i + 1], []⟩ = [] := rfl
       have w2 : IntKind.i64.wrap (((2 * j : Nat) : Int) + 1) = ((2 * j + 1 : Nat) : Int) := wrap64 (by omega) (by omega)
       have hjn : ¬ (((2 * j + 1 : Nat) : Int) < ((ends c).length : Int)) := by omega
       have hjn' : ¬ (2 * j + 1 < (ends c).length) := by omega
       simp -implicitDefEqProofs [r45_17, k45_17, iT_len, w2, hjn, e0, trim_le, -Int.natCast_add, -Int.natCast_mul]
      ·intro nx j s rest o' hj hv hd hw ho ih
       obtain ⟨g1, g2, g3, g4⟩ := ends_at hj
       have st := st17 o' j hj (by omega)
       rw [hv] at g3 g4 st
       have w2 : IntKind.i64.wrap (((2 * j : Nat) : Int) + 1) = ((2 * j + 1 : Nat) : Int) := wrap64 (by omega) (by omega)
       have w3 : IntKind.i64.wrap (((2 * j : Nat) : Int) + 2) = ((2 * (j + 1) : Nat) : Int) := (wrap64 (by omega) (by omega)).trans (by omega)
       have hjn : ((2 * j + 1 : Nat) : Int) < ((ends c).length : Int) := by omega
       have ixa := iT_index (l := ends c) (i := 2 * j) g1
       have ixb := iT_index (l := ends c) (i := 2 * j + 1) g2
       rw [g3] at ixa
       rw [g4] at ixb
       have ih := ih (o' ++ [⟨xs[i], s.1, xs[i + 1], s.2⟩]) (by rw [List.length_append]; show o'.length + 1 = _; omega)
       rw [emit_cons, ← List.append_assoc]
       simp -implicitDefEqProofs [k45_17, -List.append_assoc, -Int.natCast_add, -Int.natCast_mul] at ih
       simp -implicitDefEqProofs [r45_17, k45_17, iT_len, w1, w2, w3, hjn, ix0, ix1, ixa, ixb, b4_all, lit_rect, st, hl1, trim_le, -List.append_assoc, -Int.natCast_add, -Int.natCast_mul]
       exact ih
    ·simp -implicitDefEqProofs [r45_6, k45_6, iT_len, w1, hii, ix0, ret1 m69, ret1 m68, so, so2, so3, q1, q2, q3, gi, Rec.sl_len, -Int.natCast_add]
     have st17 := fun (o' : List Rect) (j : Nat) (hj : j < c.length) (ho : o'.length ≤ 200000000) => app_rect (h := (h ++ [rectR.row 71 o'])) (b := h.length) (lo := lo) (c := o') ⟨xs[i], c[j].1, xs[i + 1], c[j].2⟩ end0 hlo0 (by omega)
     rw [LL_for (γ := List Rect) c o (fun j o' => [(7, rectR.sl h.length o'), (14, .int .i64 ((2 * j : Nat) : Int))]) (fun _ o' => (h ++ [rectR.row 71 o']))
      (fun _ rest o' => (.exit 4, [(7, rectR.sl h.length (o' ++ emit ⟨xs[i], xs[i + 1], rest⟩)), (14, undef)], (h ++ [rectR.row 71 (o' ++ emit ⟨xs[i], xs[i + 1], rest⟩)]))) (fun j o' => o'.length = o.length + j) (by omega) rfl]
     ·simp -implicitDefEqProofs [k45_17, w1, trim_le, -Int.natCast_add]
      exact ih
     ·simp -implicitDefEqProofs [k45_17]
     ·rfl
     ·intro nx j o' hj _
      have e0 : emit ⟨xs[i], xs[i + 1], []⟩ = [] := rfl
      have w2 : IntKind.i64.wrap (((2 * j : Nat) : Int) + 1) = ((2 * j + 1 : Nat) : Int) := wrap64 (by omega) (by omega)
      have hjn : ¬ (((2 * j + 1 : Nat) : Int) < ((ends c).length : Int)) := by omega
      have hjn' : ¬ (2 * j + 1 < (ends c).length) := by omega
      simp -implicitDefEqProofs [r45_17, k45_17, iT_len, w2, hjn, e0, trim_le, -Int.natCast_add, -Int.natCast_mul]
     ·intro nx j s rest o' hj hv hd hw ho ih
      obtain ⟨g1, g2, g3, g4⟩ := ends_at hj
      have st := st17 o' j hj (by omega)
      rw [hv] at g3 g4 st
      have w2 : IntKind.i64.wrap (((2 * j : Nat) : Int) + 1) = ((2 * j + 1 : Nat) : Int) := wrap64 (by omega) (by omega)
      have w3 : IntKind.i64.wrap (((2 * j : Nat) : Int) + 2) = ((2 * (j + 1) : Nat) : Int) := (wrap64 (by omega) (by omega)).trans (by omega)
      have hjn : ((2 * j + 1 : Nat) : Int) < ((ends c).length : Int) := by omega
      have ixa := iT_index (l := ends c) (i := 2 * j) g1
      have ixb := iT_index (l := ends c) (i := 2 * j + 1) g2
      rw [g3] at ixa
      rw [g4] at ixb
      have ih := ih (o' ++ [⟨xs[i], s.1, xs[i + 1], s.2⟩]) (by rw [List.length_append]; show o'.length + 1 = _; omega)
      rw [emit_cons, ← List.append_assoc]
      simp -implicitDefEqProofs [k45_17, -List.append_assoc, -Int.natCast_add, -Int.natCast_mul] at ih
      simp -implicitDefEqProofs [r45_17, k45_17, iT_len, w1, w2, w3, hjn, ix0, ix1, ixa, ixb, b4_all, lit_rect, st, hl1, trim_le, -List.append_assoc, -Int.natCast_add, -Int.natCast_mul]
      exact ih
  ·have hfin : i = S.length := by omega
   have hout : FS.out ⟨i, P, x0, w⟩ xs = F := by
    unfold FS.out
    by_cases hi0 : i = 0
    ·rw [if_pos hi0, ← hFe]
     have : S = [] := List.eq_nil_of_length_eq_zero (by omega)
     rw [this]; rfl
    ·rw [if_neg hi0]
     have h3 := h3 hi0
     rw [List.drop_of_length_le (by omega), Rg.runs_end] at h3
     exact h3
   have w1 : IntKind.i64.wrap ((i : Int) + 1) = ((i + 1 : Nat) : Int) := wrap64 (by omega) (by omega)
   have hii : ¬ (((i + 1 : Nat) : Int) < (xs.length : Int)) := by omega
   rw [hout]
   simp -implicitDefEqProofs [r45_6, k45_6, iT_len, w1, hii, trim_le, -Int.natCast_add]
theorem form_spec2 (k m : Option Bool) (a b : List Rect) (z : Int) (f : Bool → Bool → Bool) (hz : (z = 0 ∧ f = orF) ∨ (z = 1 ∧ f = andF) ∨ (z = 2 ∧ f = subF)) (hk : Rec.Ok k a) (hm : Rec.Ok m b) (hab : a.length + b.length ≤ 1000) (hya : ∀ r ∈ a, r.y0 < r.y1) (hyb : ∀ r ∈ b, r.y0 < r.y1)
  (h : Heap) (lo : Nat) (hlo : lo ≤ h.length) :
  retCall E (L E) lo false 45 [rectR.o k a, rectR.o m b, .int .i64 z] h = some (rectR.sl h.length (refL f a b), h ++ [rectR.row 71 (refL f a b)]) := by
 rw [ret3 m45]
 show ((L E 45 [rectR.o k a, rectR.o m b, .int .i64 z] h lo).map _) = _
 rw [form_L k m a b z f hz hk hm hab hya hyb h lo hlo]
 show some (_, trim _ _ _) = _
 rw [trim_no]
 have hn : ¬ (h.length < h.length) := Nat.lt_irrefl _
 exact decide_eq_false hn
theorem form_spec (k m : Option Bool) (a b : List Rect) (z : Int) (f : Bool → Bool → Bool) (hz : (z = 0 ∧ f = orF) ∨ (z = 1 ∧ f = andF) ∨ (z = 2 ∧ f = subF)) (hk : Rec.Ok k a) (hm : Rec.Ok m b) (ha : a.length ≤ 500) (hb : b.length ≤ 500) (hya : ∀ r ∈ a, r.y0 < r.y1) (hyb : ∀ r ∈ b, r.y0 < r.y1)
  (h : Heap) (lo : Nat) (hlo : lo ≤ h.length) :
  retCall E (L E) lo false 45 [rectR.o k a, rectR.o m b, .int .i64 z] h = some (rectR.sl h.length (refL f a b), h ++ [rectR.row 71 (refL f a b)]) :=
 form_spec2 k m a b z f hz hk hm (by omega) hya hyb h lo hlo
end Go.Proofs.YtjkemccfcabhgaaGreat.Bm
namespace Go.Proofs.YtjkemccfcabhgaaGreat.Bm
open Go Go.RowKit
open Rg (Rect cell ofL opL)
theorem rright_spec (r : Rect) : pureCall E.P (L E) 83 [rectR.val r] = some (.bool (okR r)) := by
 rw [pureCall_fn F83 rfl]
 simp -implicitDefEqProofs [r83, padS, rect_val]
 unfold okR
 by_cases h1 : 0 ≤ r.x0
 case neg => simp -implicitDefEqProofs [h1]
 by_cases h2 : r.x0 < r.x1
 case neg => simp -implicitDefEqProofs [h1, h2]
 by_cases h3 : r.x1 ≤ 1048576
 case neg => simp -implicitDefEqProofs [h1, h2, h3]
 by_cases h4 : 0 ≤ r.y0
 case neg => simp -implicitDefEqProofs [h1, h2, h3, h4]
 by_cases h5 : r.y0 < r.y1
 case neg => simp -implicitDefEqProofs [h1, h2, h3, h4, h5]
 simp -implicitDefEqProofs [h1, h2, h3, h4, h5]
theorem rright_s (r : Rect) : pureCall E.P (L E) 83 [.agg ⟨[.int .i64 r.x0, .int .i64 r.y0, .int .i64 r.x1, .int .i64 r.y1]⟩] = some (.bool (okR r)) := rright_spec r
end Go.Proofs.YtjkemccfcabhgaaGreat.Bm
namespace Go.Proofs.YtjkemccfcabhgaaGreat.Bm
open Go Go.RowKit
open Rg (Rect Pt cell)
theorem within_ref (n a b : Int) : pureCall E.P (L E) 63 [.int .i64 n, .int .i64 a, .int .i64 b] = some (.bool (decide (a ≤ n) && decide (n ≤ b))) := by
 rw [pureCall_fn F63 rfl]
 by_cases h : a ≤ n
 ·simp -implicitDefEqProofs [r63, p63, h]
 ·simp -implicitDefEqProofs [r63, p63, h]
theorem box_ref (v : Vo) : pureCall E.P (L E) 62 [.agg ⟨[.int .i64 v.b.x0, .int .i64 v.b.y0, .int .i64 v.b.x1, .int .i64 v.b.y1, .int .i64 v.z0, .int .i64 v.z1]⟩] = some (.bool (okR v.b && (decide (0 ≤ v.z0) && (decide (v.z0 < v.z1) && decide (v.z1 ≤ 4096))))) := by
 have hr := rright_s v.b
 rw [pureCall_fn F62 rfl]
 cases h : okR v.b
 ·rw [h] at hr
  simp -implicitDefEqProofs [r62, p62, ret0 m83, hr]
  done
 rw [h] at hr
 by_cases h1 : 0 ≤ v.z0
 case neg =>
  simp -implicitDefEqProofs [r62, p62, ret0 m83, hr, h1]
  done
 by_cases h2 : v.z0 < v.z1
 case neg =>
  simp -implicitDefEqProofs [r62, p62, ret0 m83, hr, h1, h2]
  done
 simp -implicitDefEqProofs [r62, p62, ret0 m83, hr, h1, h2]
 done
theorem rightV_eq (v : Vo) : rightV v = ((okR v.b && (decide (0 ≤ v.z0) && (decide (v.z0 < v.z1) && decide (v.z1 ≤ 4096)))) && ((decide (0 ≤ v.u) && decide (v.u ≤ 5)) && ((decide (0 ≤ v.n) && decide (v.n ≤ 1048576)) && (decide (v.n = 0) || decide (v.u = 0))))) := by
 unfold rightV
 rw [Bool.eq_iff_iff]
 simp only [Bool.and_eq_true, Bool.or_eq_true, decide_eq_true_eq]
 constructor
 ·rintro ⟨h1, h2, h3, h4, h5, h6, h7, h8, h9⟩
  exact ⟨⟨h1, h2, h3, h4⟩, ⟨h6, by omega⟩, ⟨h8, h9⟩, h5.symm⟩
 ·rintro ⟨⟨h1, h2, h3, h4⟩, ⟨h6, h7⟩, ⟨h8, h9⟩, h5⟩
  exact ⟨h1, h2, h3, h4, h5.symm, h6, by omega, h8, h9⟩
theorem rightV_ref (v : Vo) : pureCall E.P (L E) 43 [volR.val v] = some (.bool (rightV v)) := by
 have hb := box_ref v
 have w1 := within_ref v.u 0 5
 have w2 := within_ref v.n 0 1048576
 rw [vol_val, pureCall_fn F43 rfl, rightV_eq]
 generalize (okR v.b && (decide (0 ≤ v.z0) && (decide (v.z0 < v.z1) && decide (v.z1 ≤ 4096)))) = B at *
 generalize (decide (0 ≤ v.u) && decide (v.u ≤ 5)) = U at *
 generalize (decide (0 ≤ v.n) && decide (v.n ≤ 1048576)) = M at *
 cases B
 ·simp -implicitDefEqProofs [r43, p43, ret0 m62, hb]
  done
 cases U
 ·simp -implicitDefEqProofs [r43, p43, ret0 m62, hb, ret0 m63, w1]
  done
 cases M
 ·simp -implicitDefEqProofs [r43, p43, ret0 m62, hb, ret0 m63, w1, w2]
  done
 by_cases h : v.n = 0
 ·rw [h] at w2
  simp -implicitDefEqProofs [r43, p43, ret0 m62, hb, ret0 m63, w1, w2, h]
  done
 ·have w2' := w2
  simp -implicitDefEqProofs [r43, p43, ret0 m62, hb, ret0 m63, w1, w2', h]
  done
theorem cells_ref (r : Rect) (h : okR r = true) : pureCall E.P (L E) 47 [.agg ⟨[.int .i64 r.x0, .int .i64 r.y0, .int .i64 r.x1, .int .i64 r.y1]⟩] = some (.int .i64 r.area) := by
 have hb := okR_iff.1 h
 unfold Rect.inBox at hb
 have ha := area_bound h
 unfold Rect.area at ha ⊢
 rw [pureCall_fn F47 rfl]
 have e1 : IntKind.i64.wrap (r.x1 - r.x0) = r.x1 - r.x0 := wrap64 (by omega) (by omega)
 have e2 : IntKind.i64.wrap (r.y1 - r.y0) = r.y1 - r.y0 := wrap64 (by omega) (by omega)
 have e3 : IntKind.i64.wrap ((r.x1 - r.x0) * (r.y1 - r.y0)) = (r.x1 - r.x0) * (r.y1 - r.y0) := wrap64 (by omega) (by omega)
 simp -implicitDefEqProofs [r47, p47, e1, e2, e3]
theorem sto_ref (v : Vo) : pureCall E.P (L E) 89 [volR.val v] = some (.int .i64 (stoV v)) := by
 have hr := rightV_ref v
 rw [vol_val] at hr ⊢
 rw [pureCall_fn F89 rfl]
 unfold stoV
 cases hx : v.x
 case true => simp -implicitDefEqProofs [r89, p89]
 rw [hx] at hr
 cases h : rightV v
 ·rw [h] at hr
  simp -implicitDefEqProofs [r89, p89, ret0 m43, hr]
 ·have k := rightV_ok h
  have k0 := k.z0; have k1 := k.zz; have k2 := k.z1
  rw [h] at hr
  have e1 : IntKind.i64.wrap (v.z1 - v.z0) = v.z1 - v.z0 := wrap64 (by omega) (by omega)
  have e2 : IntKind.i64.wrap (v.z1 - v.z0 + 2) = v.z1 - v.z0 + 2 := wrap64 (by omega) (by omega)
  have e4 : IntKind.i64.wrap ((v.z1 - v.z0 + 2).tdiv 3) = (v.z1 - v.z0 + 2) / 3 := by
   rw [Int.tdiv_eq_ediv_of_nonneg (by omega)]
   exact wrap64 (by omega) (by omega)
  simp -implicitDefEqProofs [r89, p89, ret0 m43, hr, e1, e2, e4, bin_quo]
theorem flo_ref (v : Vo) : pureCall E.P (L E) 72 [volR.val v] = some (.int .i64 (floV v)) := by
 have hr := rightV_ref v
 have hs := sto_ref v
 rw [vol_val] at hr hs ⊢
 rw [pureCall_fn F72 rfl]
 unfold floV
 cases h : rightV v
 ·rw [h] at hr
  simp -implicitDefEqProofs [r72, p72, ret0 m43, hr]
 ·have ha := cells_ref v.b (rightV_ok h).b
  have hf := floV_in v
  unfold floV at hf
  rw [if_pos h] at hf
  rw [h] at hr
  have e : IntKind.i64.wrap (v.b.area * stoV v) = v.b.area * stoV v := wrap64 (by omega) (by omega)
  simp -implicitDefEqProofs [r72, p72, ret0 m43, hr, ret0 m47, ha, ret0 m89, hs, e]
theorem use_lit (h : Heap) : buildSliceT (some ⟨9, 1, 16, .string ⟨⟨[]⟩⟩, ⟨some false, some 1⟩⟩) false h 6 #[(0, .string ⟨⟨[104, 111, 109, 101]⟩⟩), (1, .string ⟨⟨[115, 104, 111, 112]⟩⟩), (2, .string ⟨⟨[119, 111, 114, 107]⟩⟩), (3, .string ⟨⟨[112, 97, 114, 107]⟩⟩), (4, .string ⟨⟨[112, 108, 97, 110, 116]⟩⟩), (5, .string ⟨⟨[104, 97, 108, 108]⟩⟩)] = some (lst true namesV, h) :=
 (build_lit' (n := 6) rfl rfl (by decide) (by decide) (by decide)).trans rfl
theorem use_ix (u : Nat) (hu : u < 6) : indexAddrT (.sl 9 ⟨some false, some 1⟩) (lst true namesV) (.int .i64 (u : Int)) = some (cptr (.string (useB u))) := by
 have : u = 0 ∨ u = 1 ∨ u = 2 ∨ u = 3 ∨ u = 4 ∨ u = 5 := by omega
 rcases this with rfl | rfl | rfl | rfl | rfl | rfl <;> rfl
theorem use_ref (u : Nat) (hu : u < 6) : pureCall E.P (L E) 88 [.int .i64 (u : Int)] = some (.string (useB u)) := by
 have h1 := use_lit
 have h2 := use_ix u hu
 rw [pureCall_fn F88 rfl]
 simp -implicitDefEqProofs [r88, p88, h1, h2]
theorem findE_cons (s : ByteArray) (d : Int) (e : ByteArray × Int) (l : List (ByteArray × Int)) : findE s d (e :: l) = if e.1 = s then e.2 else findE s d l := rfl
def hasE (s : ByteArray) (l : List (ByteArray × Int)) : Bool := l.any fun e => decide (e.1 = s)
theorem hasE_cons (s : ByteArray) (e : ByteArray × Int) (l : List (ByteArray × Int)) : hasE s (e :: l) = (decide (e.1 = s) || hasE s l) := rfl
theorem findE_no (s : ByteArray) (d : Int) : ∀ l : List (ByteArray × Int), hasE s l = false → findE s d l = d
 | [], _ => rfl
 | e :: l, h => by
  rw [hasE_cons, Bool.or_eq_false_iff, decide_eq_false_iff_not] at h
  rw [findE_cons, if_neg h.1, findE_no s d l h.2]
set_option maxHeartbeats 2000000 in
theorem row_ref (p : Pn) (u : Nat) (hu : u < 6) (hk : Rec.Ok p.kt p.ts) (hl : p.ts.length ≤ 9223372036854775807) (hts : ∀ t ∈ p.ts, TbOk t) : pureCall E.P (L E) 71 [pnV p, .int .i64 (u : Int)] = some (.int .i64 (rowF (useB u) p.ts)) := by
 have ll := fun h => Rec.o_len (R := tbR) (h := h) hk
 have il := fun (i : Nat) (hi : i < p.ts.length) => Rec.o_index (R := tbR) (s := 3) (t := 80) (kk := .i64) rfl hk hi
 have pb : ∀ d n, below (d + 1) n (tbR.o p.kt p.ts) = true := fun d n => Rec.o_bel
 have ob : ∀ d n o, below (d + 1) n (opV o) = true := fun d n o => op_bel
 have hus := use_ref u hu
 rw [rowF_eq]
 rw [pureCall_fn F71 rfl]
 unfold pnV pnC
 generalize tbR.o p.kt p.ts = VL at *
 simp -implicitDefEqProofs [r71, p71]
 rw [LL_for (γ := Unit) p.ts () (fun i _ => [(5, .int .i64 i)]) (fun _ _ => [pnO p VL]) (fun i rest _ => match tabO rest with | none => (.exit 0, [(5, undef)], [pnO p VL]) | some t => (.ret, [(4, .int .i64 (clampR (findE (useB u) t.els t.rs))), (5, undef)], [pnO p VL])) (fun _ _ => True) hl trivial]
 ·cases ht : tabO p.ts with
  | none => simp -implicitDefEqProofs [k71_2]
  | some t => simp -implicitDefEqProofs [k71_2]
 ·simp -implicitDefEqProofs [k71_2]
 ·rfl
 ·intro nx i c hi _
  have e : tabO [] = none := rfl
  rw [e]
  unfold pnO
  simp -implicitDefEqProofs [r71_2, k71_2, hi, ll, trim_le]
 ·intro nx i v rest c hi hv hd hw _ ih
  have ih := ih () trivial
  have hi2 : ((i : Int) < p.ts.length) := by omega
  have x1 := il i hi
  rw [hv, tb_val] at x1
  rw [tabO_cons]
  unfold pnO at *
  simp -implicitDefEqProofs [k71_2] at ih
  by_cases he : v.nm = traffB
  ·have hv2 : v ∈ p.ts := by rw [← hv]; exact List.getElem_mem hi
   obtain ⟨kr, lr⟩ := hts v hv2
   have lrs := fun h => Rec.o_len (R := entR) (h := h) kr
   have irs := fun (i : Nat) (hi : i < v.rs.length) => oe_ld v.kr v.rs i kr hi
   have vb : ∀ d n, below (d + 1) n (entR.o v.kr v.rs) = true := fun d n => Rec.o_bel
   rw [if_pos he]; dsimp only
   rw [show traffB = ⟨⟨[116, 114, 97, 102, 102, 105, 99]⟩⟩ from rfl] at he
   generalize entR.o v.kr v.rs = VR at *
   simp -implicitDefEqProofs [r71_2, k71_2, hi2, ll, x1, he]
   rw [LL_for (γ := Unit) v.rs () (fun j _ => [(7, .int .i64 j)]) (fun _ _ => [pnO p VL, .cells 80 [.string ⟨⟨[116, 114, 97, 102, 102, 105, 99]⟩⟩, VR, .int .i64 v.els] 0]) (fun j rest _ => if hasE (useB u) rest = true then (.ret, [(4, .int .i64 (clampR (findE (useB u) v.els rest))), (7, undef)], [pnO p VL, .cells 80 [.string ⟨⟨[116, 114, 97, 102, 102, 105, 99]⟩⟩, VR, .int .i64 v.els] 0]) else (.exit 2, [(7, undef)], [pnO p VL, .cells 80 [.string ⟨⟨[116, 114, 97, 102, 102, 105, 99]⟩⟩, VR, .int .i64 v.els] 0])) (fun _ _ => True) lr trivial]
   ·unfold pnO
    cases hE : hasE (useB u) v.rs
    ·rw [findE_no _ _ _ hE]
     simp -implicitDefEqProofs [k71_7, max_int, min_int, clampR, trim_cut, pb, ob]
     done
    ·simp -implicitDefEqProofs [k71_7, trim_cut, pb, ob]
     done
   ·simp -implicitDefEqProofs [k71_7]
   ·rfl
   ·intro nx j c hj _
    have e : hasE (useB u) [] = false := rfl
    rw [e, if_neg (by decide)]
    unfold pnO
    simp -implicitDefEqProofs [r71_7, k71_7, hj, lrs, trim_le]
    done
   ·intro nx j w rest2 c hj hwj hd2 hw2 _ ih2
    have ih2 := ih2 () trivial
    have hj2 : ((j : Int) < v.rs.length) := by omega
    have y1 := irs j hj
    rw [hwj] at y1
    rw [hasE_cons, findE_cons]
    unfold pnO at *
    simp -implicitDefEqProofs [k71_7] at ih2
    by_cases q : w.1 = useB u
    ·rw [decide_eq_true q, if_pos q, Bool.true_or, if_pos rfl]
     simp -implicitDefEqProofs [r71_7, k71_7, hj2, lrs, y1, ret0 m88, hus, q, max_int, min_int, clampR, trim_le]
     done
    ·rw [decide_eq_false q, if_neg q, Bool.false_or]
     simp -implicitDefEqProofs [r71_7, k71_7, hj2, lrs, y1, ret0 m88, hus, q, hw2, trim_le]
     with_reducible exact ih2
  ·rw [if_neg he]
   rw [show traffB = ⟨⟨[116, 114, 97, 102, 102, 105, 99]⟩⟩ from rfl] at he
   simp -implicitDefEqProofs [r71_2, k71_2, hi2, ll, x1, he, hw, trim_le]
   with_reducible exact ih
set_option maxHeartbeats 2000000 in
theorem traf_ref (p : Pn) (hp : PnOk p) (v : Vo) (hv : rightV v = true) : pureCall E.P (L E) 46 [pnV p, volR.val v] = some (.int .i64 (trafV p.ts v)) := by
 have k := rightV_ok hv
 have k0 := k.u0; have k6 := k.u6
 have hrow := row_ref p v.u.toNat (by omega) hp.kt hp.lt hp.tb
 rw [Int.toNat_of_nonneg k0] at hrow
 have hf := flo_ref v
 have hpr := fun h => pn_reify p h
 have hfr := rowF_in (useB v.u.toNat) p.ts
 have hfl := floV_in v
 have hm := trafV_mul (ts := p.ts) (v := v)
 unfold trafV at *
 generalize rowF (useB v.u.toNat) p.ts = r at *
 generalize floV v = f at *
 rw [vol_val] at hf ⊢
 rw [pureCall_fn F46 rfl]
 unfold pnV pnC at *
 generalize tbR.o p.kt p.ts = VL at *
 by_cases h0 : 0 < r
 case neg =>
  obtain rfl : r = 0 := by omega
  have e0 : (0 * f + 99) / 100 = (0 : Int) := by rw [Int.zero_mul]; rfl
  rw [if_neg (fun h => h0 h.1), e0]
  simp -implicitDefEqProofs [r46, p46, ret0 m71, hrow, hpr, ret0 m72, hf]
  done
 have hr0 : r ≠ 0 := by omega
 have hle : (109951162777600 : Int) / r ≤ 109951162777600 := Int.ediv_le_self _ (by decide)
 have hge : 0 ≤ (109951162777600 : Int) / r := Int.ediv_nonneg (by decide) (by omega)
 by_cases hf0 : f = 0
 ·subst hf0
  have e0 : (r * 0 + 99) / 100 = (0 : Int) := by rw [Int.mul_zero]; rfl
  rw [if_neg (fun h => by omega), e0]
  simp -implicitDefEqProofs [r46, p46, ret0 m71, hrow, hpr, ret0 m72, hf, hr0]
  done
 have e1 : IntKind.i64.wrap ((109951162777600 : Int).tdiv r) = 109951162777600 / r := by
  rw [Int.tdiv_eq_ediv_of_nonneg (by decide)]
  exact wrap64 (by omega) (by omega)
 have qo : aBin E.P .quo 3 (.int .i64 109951162777600) (.int .i64 r) = some (.int .i64 (109951162777600 / r)) := by rw [bin_quo hr0, e1]
 by_cases h1 : 109951162777600 / r < f
 ·rw [if_pos ⟨h0, h1⟩]
  simp -implicitDefEqProofs [r46, p46, ret0 m71, hrow, hpr, ret0 m72, hf, hr0, hf0, qo, h1]
  done
 ·have hm := hm (fun q => h1 q.2)
  rw [if_neg (fun h => h1 h.2)]
  have e2 : IntKind.i64.wrap (r * f) = r * f := wrap64 (by omega) (by omega)
  have e4 : IntKind.i64.wrap (r * f + 99) = r * f + 99 := wrap64 (by omega) (by omega)
  have e5 : IntKind.i64.wrap ((r * f + 99).tdiv 100) = (r * f + 99) / 100 := by
   rw [Int.tdiv_eq_ediv_of_nonneg (by omega)]
   exact wrap64 (by omega) (by omega)
  simp -implicitDefEqProofs [r46, p46, ret0 m71, hrow, hpr, ret0 m72, hf, hr0, hf0, qo, h1, e2, e4, e5, bin_quo]
  done
theorem meets_cells {A : List Rect} {b : Rect} : (A.any fun r => Rg.meetB r b) = true ↔ ∃ x y, (cell A x y && cell [b] x y) = true := by
 constructor
 ·intro h
  obtain ⟨r, hr, hm⟩ := List.any_eq_true.1 h
  have hc := Rg.corn_has hm
  rw [Bool.and_eq_true] at hc
  refine ⟨(Rg.corn r b).1, (Rg.corn r b).2, ?_⟩
  rw [Bool.and_eq_true]
  exact ⟨List.any_eq_true.2 ⟨r, hr, hc.1⟩, List.any_eq_true.2 ⟨b, by simp, hc.2⟩⟩
 ·rintro ⟨x, y, h⟩
  rw [Bool.and_eq_true] at h
  obtain ⟨r, hr, h1⟩ := List.any_eq_true.1 h.1
  obtain ⟨s, hs, h2⟩ := List.any_eq_true.1 h.2
  obtain rfl : s = b := by simpa using hs
  exact List.any_eq_true.2 ⟨r, hr, (Rg.corn_le h1 h2).1⟩
theorem reg_form {a : List Rect} (h : regB a = true) : Rg.Form a := (regB_iff.1 h).2.2
theorem reg_pos32 {a : List Rect} (h : regB a = true) : ∀ r ∈ a, r.y0 < r.y1 := fun r hr => ((reg_form h).pos r hr).2
theorem box_y {b : Rect} (hb : okR b = true) : ∀ r ∈ [b], r.y0 < r.y1 := fun r hr => by
 have h := okR_iff.1 hb
 unfold Rect.inBox at h
 rw [List.mem_singleton.1 hr]; omega
theorem form_meets {A : List Rect} {b : Rect} (ra : regB A = true) (hb : okR b = true) : (refL andF A [b]).length = 0 ↔ (A.any fun r => Rg.meetB r b) = false := by
 obtain ⟨h1, h2⟩ := refL_ok andF rfl (a := A) (b := [b]) (reg_pos32 ra) (box_y hb)
 have e : ∀ x y, cell (refL andF A [b]) x y = (cell A x y && cell [b] x y) := h2
 constructor
 ·intro h
  have h0 := List.eq_nil_of_length_eq_zero h
  cases q : A.any fun r => Rg.meetB r b
  ·rfl
  ·obtain ⟨x, y, hxy⟩ := meets_cells.1 q
   rw [← e, h0] at hxy
   exact absurd hxy Bool.false_ne_true
 ·intro h
  cases hF : refL andF A [b] with
  | nil => rfl
  | cons r l =>
   rw [hF] at h1 e
   have hl := Rg.form_least h1
   have := meets_cells.2 ⟨_, _, by rw [← e]; exact hl.has⟩
   rw [h] at this; cases this
end Go.Proofs.YtjkemccfcabhgaaGreat.Bm
