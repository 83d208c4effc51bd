/-
 slices.SortFunc at spans: its contract. Conditions: none.
-/
import Derived.Test.YthkddpgnhaeooaaQT25
import Derived.Test.YthkddpgnhaeooaaQT21
import Derived.Test.YthkddpgnhaeooaaQT24
import Derived.Test.YthkddpgnhaeooaaQT16
import Derived.Test.YthkddpgnhaeooaaChecked
import Derived.Shelf.Sort.Plain
import Derived.Shelf.Slices.In.SortNone
import Derived.Shelf.Slices.CompactI
import Derived.Shelf.SlSortCmp.WholeK
import Derived.Shelf.SlSortCmp.NoneTotal
namespace Go.Proofs.Ythkddpgnhaeooaa.Bm
open Go Go.RowKit
open Rg (Rect Slab runs runsF outT emit stripL mergeC colC edgesX ends swp cell)
def refC (f : Bool → Bool → Bool) (a b : List Rect) (x : Int) : List (Int × Int) := mergeC f (colC a x) (colC b x)
def refL (f : Bool → Bool → Bool) (a b : List Rect) : List Rect := outT (runsF (stripL (refC f a b) (edgesX (a ++ b))))
theorem refC_ok (f : Bool → Bool → Bool) (hf : f false false = false) {a b : List Rect} (ha : ∀ r ∈ a, r.y0 < r.y1) (hb : ∀ r ∈ b, r.y0 < r.y1) (x : Int) : Rg.Can (refC f a b x) ∧ ∀ y, Rg.hasS (refC f a b x) y = f (cell a x y) (cell b x y) := by
 obtain ⟨h1, h2⟩ := Rg.mergeC_ok f hf (Rg.colC_ok ha x).1 (Rg.colC_ok hb x).1
 refine ⟨h1, fun y => ?_⟩
 rw [show Rg.hasS (refC f a b x) y = _ from h2 y, (Rg.colC_ok ha x).2, (Rg.colC_ok hb x).2]
theorem refL_ok (f : Bool → Bool → Bool) (hf : f false false = false) {a b : List Rect} (ha : ∀ r ∈ a, r.y0 < r.y1) (hb : ∀ r ∈ b, r.y0 < r.y1) : Rg.Form (refL f a b) ∧ ∀ x y, cell (refL f a b) x y = f (cell a x y) (cell b x y) := by
 have h1 : Rg.Steps (a ++ b) (cell a) := (Rg.cell_steps a).mono fun r hr => List.mem_append_left _ hr
 have h2 : Rg.Steps (a ++ b) (cell b) := (Rg.cell_steps b).mono fun r hr => List.mem_append_right _ hr
 exact Rg.strips_form (h1.op h2 f hf) (Rg.sortU_asc _) (Rg.edgesX_all _) (refC f a b) (fun x => (refC_ok f hf ha hb x).1) fun x _ y => (refC_ok f hf ha hb x).2 y
theorem next_run {x0 x1 : Int} {w : List (Int × Int)} {s : Slab} {T : List Slab} (h : s.col = [] ∨ s.col ≠ w) : outT (runs ⟨x0, x1, w⟩ (s :: T)) = emit ⟨x0, x1, w⟩ ++ outT (runs s T) := by
 by_cases e : s.col = w
 ·have h0 : s.col = [] := h.resolve_right fun h => h e
  have hw : w = [] := by rw [← e, h0]
  subst hw
  rw [Rg.runs_none (s := ⟨x0, x1, []⟩) rfl, Rg.emit_nil (s := ⟨x0, x1, []⟩) rfl]; rfl
 ·exact Rg.runs_stop (s := ⟨x0, x1, w⟩) e
theorem stripL_get (c : Int → List (Int × Int)) : ∀ (xs : List Int) (i : Nat) (h : i + 1 < xs.length), ∃ hs : i < (stripL c xs).length, (stripL c xs)[i] = ⟨xs[i], xs[i + 1], c xs[i]⟩
 | [], i, h => by simp at h
 | [_], i, h => by simp at h
 | a :: b :: xs, 0, _ => ⟨Nat.succ_pos _, rfl⟩
 | a :: b :: xs, i + 1, h => by
  obtain ⟨hs, e⟩ := stripL_get c (b :: xs) i (by simpa using h)
  exact ⟨Nat.succ_lt_succ hs, e⟩
theorem emit_len (s : Slab) : (emit s).length = s.col.length := List.length_map _
theorem emit_app (x0 x1 : Int) (c d : List (Int × Int)) : emit ⟨x0, x1, c ++ d⟩ = emit ⟨x0, x1, c⟩ ++ emit ⟨x0, x1, d⟩ := List.map_append
theorem ends_even : ∀ {c : List (Int × Int)} {j : Nat} (hj : j < c.length), (ends c)[2 * j]? = some c[j].1 ∧ (ends c)[2 * j + 1]? = some c[j].2
 | [], j, hj => by simp at hj
 | s :: c, 0, _ => ⟨rfl, rfl⟩
 | s :: c, j + 1, hj => ends_even (c := c) (j := j) (by simpa using hj)
theorem ends_at {c : List (Int × Int)} {j : Nat} (hj : j < c.length) : ∃ (h1 : 2 * j < (ends c).length) (h2 : 2 * j + 1 < (ends c).length), (ends c)[2 * j] = c[j].1 ∧ (ends c)[2 * j + 1] = c[j].2 := by
 have hl := Rg.ends_len c
 obtain ⟨e1, e2⟩ := ends_even hj
 refine ⟨by omega, by omega, ?_, ?_⟩
 ·rw [List.getElem?_eq_getElem (by omega)] at e1; exact Option.some.inj e1
 ·rw [List.getElem?_eq_getElem (by omega)] at e2; exact Option.some.inj e2
theorem out_get {P : List Rect} {x0 x1 x2 : Int} {c : List (Int × Int)} {j : Nat} (hj : j < c.length) :
  (P ++ (emit ⟨x0, x2, c.take j⟩ ++ emit ⟨x0, x1, c.drop j⟩))[P.length + j]? = some ⟨x0, c[j].1, x1, c[j].2⟩ := by
 rw [List.getElem?_append_right (by omega), Nat.add_sub_cancel_left, List.getElem?_append_right (by rw [emit_len]; simp; omega)]
 have e : (emit ⟨x0, x2, c.take j⟩).length = j := by rw [emit_len]; simp; omega
 rw [e, Nat.sub_self, List.drop_eq_getElem_cons hj]; rfl
theorem out_set {P : List Rect} {x0 x1 x2 : Int} {c : List (Int × Int)} {j : Nat} (hj : j < c.length) :
  (P ++ (emit ⟨x0, x2, c.take j⟩ ++ emit ⟨x0, x1, c.drop j⟩)).set (P.length + j) ⟨x0, c[j].1, x2, c[j].2⟩ = P ++ (emit ⟨x0, x2, c.take (j + 1)⟩ ++ emit ⟨x0, x1, c.drop (j + 1)⟩) := by
 have e : (emit ⟨x0, x2, c.take j⟩).length = j := by rw [emit_len]; simp; omega
 rw [List.set_append_right _ _ (by omega), Nat.add_sub_cancel_left, List.set_append_right _ _ (by omega), e, Nat.sub_self, List.drop_eq_getElem_cons hj, List.take_succ_eq_append_getElem hj, emit_app, List.append_assoc]
 rfl
theorem out_len {P : List Rect} {x0 x1 x2 : Int} {c : List (Int × Int)} {j : Nat} : (P ++ (emit ⟨x0, x2, c.take j⟩ ++ emit ⟨x0, x1, c.drop j⟩)).length = P.length + c.length := by
 rw [List.length_append, List.length_append, emit_len, emit_len, ← List.length_append]
 simp only [List.take_append_drop]
theorem rect_sl {b : Nat} {c d : List Rect} (h : c.length = d.length) : rectR.sl b c = rectR.sl b d := by unfold Rec.sl; rw [h]
structure FS where
 i : Nat
 P : List Rect
 x0 : Int
 w : List (Int × Int)
def FS.out (s : FS) (xs : List Int) : List Rect := if s.i = 0 then [] else s.P ++ emit ⟨s.x0, xs.getD s.i 0, s.w⟩
def FS.was (s : FS) : Value := if s.i = 0 then .slice none 0 0 else iT (ends s.w)
def bnd (i : Nat) : Nat := (i + 1) * 5000
theorem bnd_succ (i : Nat) : bnd (i + 1) = bnd i + 5000 := by unfold bnd; omega
theorem bnd_le {i : Nat} (h : i ≤ 2000) : bnd i ≤ 100000000 := by unfold bnd; omega
def FS.ok (s : FS) (xs : List Int) (S : List Slab) (F : List Rect) : Prop := s.i ≤ S.length ∧ (s.i = 0 → s.P = []) ∧ (s.i ≠ 0 → s.P ++ outT (runs ⟨s.x0, xs.getD s.i 0, s.w⟩ (S.drop s.i)) = F) ∧ s.P.length + s.w.length ≤ bnd s.i ∧ s.w.length ≤ 5000
theorem swp_len (f : Bool → Bool → Bool) : ∀ (A B : List Int) (p q w : Bool), (swp f A B p q w).length ≤ A.length + B.length
 | [], [], _, _, _ => by simp [swp]
 | a :: A, [], p, q, w => by
  have := swp_len f A [] (!p) q (f (!p) q)
  rw [swp, List.length_append]
  split <;> simp at * <;> omega
 | [], b :: B, p, q, w => by
  have := swp_len f [] B p (!q) (f p (!q))
  rw [swp, List.length_append]
  split <;> simp at * <;> omega
 | a :: A, b :: B, p, q, w => by
  have h1 := swp_len f A (b :: B) (!p) q (f (!p) q)
  have h2 := swp_len f (a :: A) B p (!q) (f p (!q))
  have h3 := swp_len f A B (!p) (!q) (f (!p) (!q))
  rw [swp]
  split
  ·rw [List.length_append]; split <;> simp at * <;> omega
  ·split
   ·rw [List.length_append]; split <;> simp at * <;> omega
   ·rw [List.length_append]; split <;> simp at * <;> omega
termination_by A B => A.length + B.length
set_option maxHeartbeats 4000000 in
theorem form_L (k m : Option Bool) (a b : List Rect) (z : Int) (f : Bool → Bool → Bool) (hz : (z = 0 ∧ f = orF) ∨ (z = 1 ∧ f = andF) ∨ (z = 2 ∧ f = subF)) (hk : Rec.Ok k a) (hm : Rec.Ok m b) (hab : a.length + b.length ≤ 1000) (hya : ∀ r ∈ a, r.y0 < r.y1) (hyb : ∀ r ∈ b, r.y0 < r.y1)
  (h : Heap) (lo : Nat) (hlo0 : lo ≤ h.length) :
  L E 44 [rectR.o k a, rectR.o m b, .int .i64 z] h lo = some (rectR.sl h.length (refL f a b), h ++ [rectR.row 41 (refL f a b)]) := by
 have ha : a.length ≤ 1000 := by omega
 have hb : b.length ≤ 1000 := by omega
 have hl1 : ∀ x : AObj, (h ++ [x]).length = h.length + 1 := fun x => by simp
 have hf : f false false = false := by rcases hz with ⟨_, rfl⟩ | ⟨_, rfl⟩ | ⟨_, rfl⟩ <;> rfl
 have ed := edges_spec k m a b hk hm (by omega) (by omega)
 have col : ∀ x, ∃ ca cb, pureCall E.P (L E) 60 [rectR.o k a, .int .i64 x] = some (iT ca) ∧ pureCall E.P (L E) 60 [rectR.o m b, .int .i64 x] = some (iT cb) ∧ pureCall E.P (L E) 59 [iT ca, iT cb, .int .i64 z] = some (iT (ends (refC f a b x))) ∧ (refC f a b x).length ≤ 2000 := fun x => by
  have c1 := rcolumn_spec k a x hk (by omega)
  have c2 := rcolumn_spec m b x hm (by omega)
  rw [ref_col hya] at c1
  rw [ref_col hyb] at c2
  have l1 := Rg.colC_len a x
  have l2 := Rg.colC_len b x
  have l3 := Rg.ends_len (colC a x)
  have l4 := Rg.ends_len (colC b x)
  have c3 := rcombine_spec (ends (colC a x)) (ends (colC b x)) z f hz (by omega) (by omega)
  obtain ⟨q1, q2⟩ := Rg.mergeC_ok f hf (Rg.colC_ok hya x).1 (Rg.colC_ok hyb x).1
  have e := Rg.swp_col f hf (Rg.colC_ok hya x).1 (Rg.colC_ok hyb x).1 q1 q2
  have ll := swp_len f (ends (colC a x)) (ends (colC b x)) false false false
  rw [e] at c3 ll
  rw [Rg.ends_len] at ll
  exact ⟨_, _, c1, c2, c3, by show (mergeC f (colC a x) (colC b x)).length ≤ 2000; omega⟩
 have hxs : (edgesX (a ++ b)).length ≤ 2000 := by
  have := Rg.edgesX_len (a ++ b)
  rw [List.length_append] at this; omega
 have so : ∀ k l, settled depth (rectR.o k l) = true := fun k l => Rec.o_set
 have so2 : ∀ l, settled depth (iT l) = true := fun _ => rfl
 have so3 : ∀ z, settled depth (.int .i64 z) = true := fun _ => rfl
 rw [L_fn F44 rfl]
 simp -implicitDefEqProofs [r44, p44, prep_new, newK_nil s32, ret1 m58, so, ed]
 unfold refL
 generalize hxe : edgesX (a ++ b) = xs at hxs ⊢
 have hSl := Rg.stripL_len (refC f a b) xs
 have hSg := stripL_get (refC f a b) xs
 generalize hSe : stripL (refC f a b) xs = S at hSl hSg ⊢
 generalize hFe : outT (runsF S) = F
 rw [LL_rec (α := FS) ⟨0, [], 0, []⟩ (fun s => [(7, rectR.sl h.length (s.out xs)), (9, s.was), (10, .int .i64 (s.P.length : Int)), (11, .int .i64 (s.i : Int))]) (fun s => (h ++ [rectR.row 41 (s.out xs)]))
  (fun _ => (.exit 0, [(7, rectR.sl h.length F), (9, undef), (10, undef), (11, undef)], (h ++ [rectR.row 41 F]))) (fun s => s.ok xs S F) (fun s => S.length - s.i)]
 ·simp -implicitDefEqProofs [k44_6]
 ·exact ⟨Nat.zero_le _, fun _ => rfl, fun h => absurd rfl h, Nat.zero_le _, Nat.zero_le _⟩
 ·simp -implicitDefEqProofs [k44_6, FS.out, FS.was, Rec.sl_nil]
 ·rfl
 ·intro nx s hI ih
  obtain ⟨i, P, x0, w⟩ := s
  obtain ⟨h1, h2, h3, h4, h5⟩ := hI
  simp only at h1 h2 h3 h4 h5
  have hS2 : S.length ≤ 2000 := by omega
  have hgx : ∀ j (hj : j < xs.length), xs.getD j 0 = xs[j] := fun j hj => by rw [List.getD_eq_getElem?_getD, List.getElem?_eq_getElem hj]; rfl
  by_cases hi : i + 1 < xs.length
  ·obtain ⟨hs, eS⟩ := hSg i hi
   have hdS : S.drop i = ⟨xs[i], xs[i + 1], refC f a b xs[i]⟩ :: S.drop (i + 1) := by rw [List.drop_eq_getElem_cons hs, eS]
   obtain ⟨ca, cb, q1, q2, q3, q4⟩ := col xs[i]
   generalize refC f a b xs[i] = c at q3 q4 hdS
   have w1 : IntKind.i64.wrap ((i : Int) + 1) = ((i + 1 : Nat) : Int) := wrap64 (by omega) (by omega)
   have hii : ((i + 1 : Nat) : Int) < (xs.length : Int) := by omega
   have ix0 := iT_index (l := xs) (i := i) (by omega)
   have ix1 := iT_index (l := xs) (i := i + 1) hi
   have hel := Rg.ends_len c
   have gx0 := hgx i (by omega)
   have gx1 := hgx (i + 1) hi
   by_cases hmg : i ≠ 0 ∧ c ≠ [] ∧ c = w
   ·obtain ⟨hi0, hc0, hcw⟩ := hmg
    subst hcw
    have h3 := h3 hi0
    rw [hdS, Rg.runs_step (s := ⟨x0, xs.getD i 0, c⟩) (u := ⟨xs[i], xs[i + 1], c⟩) rfl] at h3
    have h4' : P.length + c.length ≤ bnd (i + 1) := by rw [bnd_succ]; omega
    have ih := ih ⟨i + 1, P, x0, c⟩ (by show S.length - (i + 1) < S.length - i; omega) ⟨by show i + 1 ≤ S.length; omega, fun h => absurd h (Nat.succ_ne_zero i), fun _ => by show P ++ outT (runs ⟨x0, xs.getD (i + 1) 0, c⟩ (S.drop (i + 1))) = F; rw [gx1]; exact h3, h4', h5⟩
    have eo : FS.out ⟨i, P, x0, c⟩ xs = P ++ emit ⟨x0, xs[i], c⟩ := by unfold FS.out; rw [if_neg hi0, gx0]
    have eo1 : FS.out ⟨i + 1, P, x0, c⟩ xs = P ++ emit ⟨x0, xs[i + 1], c⟩ := by unfold FS.out; rw [if_neg (Nat.succ_ne_zero i), gx1]
    have ew : FS.was ⟨i, P, x0, c⟩ = iT (ends c) := if_neg hi0
    have ew1 : FS.was ⟨i + 1, P, x0, c⟩ = iT (ends c) := if_neg (Nat.succ_ne_zero i)
    simp only [eo1, ew1] at ih
    simp only [eo, ew]
    have hipos : (0 : Int) < (i : Int) := by omega
    have hiposN : 0 < i := by omega
    have hcpos : 0 < c.length := List.length_pos_iff.2 hc0
    have hepos : 0 < (ends c).length := by omega
    have hepos' : (0 : Int) < ((ends c).length : Int) := by omega
    have ci := ints_spec (ends c) (ends c) (by omega)
    rw [decide_eq_true rfl] at ci
    have hlo : (P ++ emit ⟨x0, xs[i], c⟩).length = P.length + c.length := by rw [List.length_append, emit_len]
    simp -implicitDefEqProofs [k44_6] at ih
    simp -implicitDefEqProofs [r44_6, k44_6, iT_len, w1, hii, ix0, ret1 m60, ret1 m59, so, so2, so3, q1, q2, q3, hiposN, hepos, ret0 m61, iT_reify, ci, -Int.natCast_add]
    rw [LL_rec (α := Nat) 0 (fun j => [(13, .int .i64 ((P.length + j : Nat) : Int))]) (fun j => (h ++ [rectR.row 41 (P ++ (emit ⟨x0, xs[i + 1], c.take j⟩ ++ emit ⟨x0, xs[i], c.drop j⟩))]))
     (fun _ => (.exit 2, [(13, undef)], (h ++ [rectR.row 41 (P ++ emit ⟨x0, xs[i + 1], c⟩)]))) (fun j => j ≤ c.length) (fun j => c.length - j)]
    ·have esl : rectR.sl h.length (P ++ emit ⟨x0, xs[i + 1], c⟩) = rectR.sl h.length (P ++ emit ⟨x0, xs[i], c⟩) := rect_sl (by rw [List.length_append, List.length_append, emit_len, emit_len])
     rw [esl] at ih
     simp -implicitDefEqProofs [k44_11, w1, trim_le, -Int.natCast_add]
     exact ih
    ·exact Nat.zero_le _
    ·simp -implicitDefEqProofs [k44_11]
    ·rfl
    ·intro nx j hj ih
     by_cases hjc : j < c.length
     ·have ih := ih (j + 1) (by omega) (by omega)
      have hgt : P.length + j < (P ++ (emit ⟨x0, xs[i + 1], c.take j⟩ ++ emit ⟨x0, xs[i], c.drop j⟩)).length := by rw [out_len]; omega
      have eg : (P ++ (emit ⟨x0, xs[i + 1], c.take j⟩ ++ emit ⟨x0, xs[i], c.drop j⟩))[P.length + j] = ⟨x0, c[j].1, xs[i], c[j].2⟩ := by
       have := out_get (P := P) (x0 := x0) (x1 := xs[i]) (x2 := xs[i + 1]) hjc
       rw [List.getElem?_eq_getElem hgt] at this
       exact Option.some.inj this
      have es := out_set (P := P) (x0 := x0) (x1 := xs[i]) (x2 := xs[i + 1]) hjc
      have esl : rectR.sl h.length (P ++ emit ⟨x0, xs[i], c⟩) = rectR.sl h.length (P ++ (emit ⟨x0, xs[i + 1], c.take j⟩ ++ emit ⟨x0, xs[i], c.drop j⟩)) := rect_sl (by rw [out_len, hlo])
      have w2 : IntKind.i64.wrap (((P.length + j : Nat) : Int) + 1) = ((P.length + (j + 1) : Nat) : Int) := by
       have := bnd_le (i := i) (by omega)
       exact (wrap64 (by omega) (by omega)).trans (by omega)
      have hlt : ((P.length + j : Nat) : Int) < ((P.length + c.length : Nat) : Int) := by omega
      have hltN : P.length + j < P.length + c.length := by omega
      have ixr := Rec.index_row (R := rectR) (h0 := 4) (t := 41) (g := some true) (b := h.length) (l := P ++ (emit ⟨x0, xs[i + 1], c.take j⟩ ++ emit ⟨x0, xs[i], c.drop j⟩)) (i := P.length + j) (k := .i64) rfl hgt
      rw [← esl] at ixr
      have fdr := Rec.field_row (R := rectR) (b := h.length) (n := 0) (f := 2) (l := P ++ (emit ⟨x0, xs[i + 1], c.take j⟩ ++ emit ⟨x0, xs[i], c.drop j⟩)) (i := P.length + j) (k := ⟨some true, some 4⟩) (g := some false)
      have str := Rec.store_cell (R := rectR) (h := (h ++ [rectR.row 41 (P ++ (emit ⟨x0, xs[i + 1], c.take j⟩ ++ emit ⟨x0, xs[i], c.drop j⟩))])) (b := h.length) (j := 2) (lo := lo) (t := 41) (l := P ++ (emit ⟨x0, xs[i + 1], c.take j⟩ ++ emit ⟨x0, xs[i], c.drop j⟩)) (i := P.length + j) (v := .int .i64 xs[i + 1]) (a := ⟨x0, c[j].1, xs[i + 1], c[j].2⟩) rfl end0 hlo0 hgt (by decide) (by rw [eg]; rfl)
      rw [es] at str
      generalize P ++ (emit ⟨x0, xs[i + 1], c.take j⟩ ++ emit ⟨x0, xs[i], c.drop j⟩) = oj at *
      generalize P ++ (emit ⟨x0, xs[i + 1], c.take (j + 1)⟩ ++ emit ⟨x0, xs[i], c.drop (j + 1)⟩) = oj1 at *
      generalize hQ : ((P.length + j : Nat) : Int) = Q at *
      generalize hQ1 : ((P.length + (j + 1) : Nat) : Int) = Q1 at *
      simp -implicitDefEqProofs [k44_11] at ih
      simp -implicitDefEqProofs [r44_11, k44_11, Rec.sl_len, hlo, hlt, w1, w2, ix1, ixr, fdr, str, hl1, trim_le, -Int.natCast_add, -List.length_append]
      exact ih
     ·have e1 : c.take j = c := List.take_of_length_le (by omega)
      have e2 : c.drop j = [] := List.drop_of_length_le (by omega)
      have e3 : emit ⟨x0, xs[i], []⟩ = [] := rfl
      have hlt : ¬ (((P.length + j : Nat) : Int) < ((P.length + c.length : Nat) : Int)) := by omega
      have hltN : ¬ (P.length + j < P.length + c.length) := by omega
      rw [e1, e2, e3, List.append_nil]
      simp -implicitDefEqProofs [r44_11, k44_11, Rec.sl_len, hlo, hlt, hl1, trim_le, -Int.natCast_add, -List.length_append]
   ·have hnx : c = [] ∨ (i ≠ 0 → c ≠ w) := by
     by_cases h0 : c = []
     ·exact .inl h0
     ·exact .inr fun hi0 he => hmg ⟨hi0, h0, he⟩
    obtain ⟨o, ho⟩ : ∃ o, o = FS.out ⟨i, P, x0, w⟩ xs := ⟨_, rfl⟩
    have hol : o.length ≤ bnd i := by
     rw [ho]; unfold FS.out
     split
     ·exact Nat.zero_le _
     ·rw [List.length_append, emit_len]; exact h4
    have hbi := bnd_le (i := i) (by omega)
    have h4' : o.length + c.length ≤ bnd (i + 1) := by rw [bnd_succ]; omega
    have hnew : o ++ outT (runs ⟨xs[i], xs[i + 1], c⟩ (S.drop (i + 1))) = F := by
     rw [ho]; unfold FS.out
     by_cases hi0 : i = 0
     ·rw [if_pos hi0, List.nil_append, ← hFe]
      subst hi0
      rw [List.drop_zero] at hdS
      rw [hdS]; rfl
     ·rw [if_neg hi0]
      have h3 := h3 hi0
      rw [hdS, next_run (s := ⟨xs[i], xs[i + 1], c⟩) (by rcases hnx with h | h; exact .inl h; exact .inr (h hi0)), ← List.append_assoc] at h3
      exact h3
    have ih := ih ⟨i + 1, o, xs[i], c⟩ (by show S.length - (i + 1) < S.length - i; omega) ⟨by show i + 1 ≤ S.length; omega, fun h => absurd h (Nat.succ_ne_zero i), fun _ => by show o ++ outT (runs ⟨xs[i], xs.getD (i + 1) 0, c⟩ (S.drop (i + 1))) = F; rw [gx1]; exact hnew, h4', by show c.length ≤ 5000; omega⟩
    have eo1 : FS.out ⟨i + 1, o, xs[i], c⟩ xs = o ++ emit ⟨xs[i], xs[i + 1], c⟩ := by unfold FS.out; rw [if_neg (Nat.succ_ne_zero i), gx1]
    have ew1 : FS.was ⟨i + 1, o, xs[i], c⟩ = iT (ends c) := if_neg (Nat.succ_ne_zero i)
    simp only [eo1, ew1] at ih
    simp only [← ho]
    simp -implicitDefEqProofs [k44_6, -Int.natCast_add] at ih
    have three : i = 0 ∨ (i ≠ 0 ∧ c = []) ∨ (i ≠ 0 ∧ c ≠ [] ∧ c ≠ w) := by
     by_cases hi0 : i = 0
     ·exact .inl hi0
     ·by_cases hc0 : c = []
      ·exact .inr (.inl ⟨hi0, hc0⟩)
      ·exact .inr (.inr ⟨hi0, hc0, fun e => hmg ⟨hi0, hc0, e⟩⟩)
    have hG : (0 < i ∧ 0 < (ends c).length → FS.was ⟨i, P, x0, w⟩ = iT (ends w) ∧ decide (ends c = ends w) = false) := fun ⟨h, h'⟩ => by
     have hi0 : i ≠ 0 := by omega
     refine ⟨if_neg hi0, decide_eq_false fun e => ?_⟩
     have ecw : c = w := by rw [← Rg.pairs_ends c, e, Rg.pairs_ends]
     rcases hnx with h0 | h0
     ·subst h0; simp [ends] at h'
     ·exact h0 hi0 ecw
    have cw := ints_spec (ends c) (ends w) (by omega)
    generalize FS.was ⟨i, P, x0, w⟩ = wv at hG ⊢
    by_cases gi : 0 < i
    ·by_cases gc : 0 < (ends c).length
     ·obtain ⟨ew, ed⟩ := hG ⟨gi, gc⟩
      rw [ed] at cw
      subst ew
      simp -implicitDefEqProofs [r44_6, k44_6, iT_len, w1, hii, ix0, ret1 m60, ret1 m59, so, so2, so3, q1, q2, q3, gi, gc, ret0 m61, iT_reify, cw, Rec.sl_len, -Int.natCast_add]
      have st17 := fun (o' : List Rect) (j : Nat) (hj : j < c.length) (ho : o'.length ≤ 200000000) => app_rect (h := (h ++ [rectR.row 41 o'])) (b := h.length) (lo := lo) (c := o') ⟨xs[i], c[j].1, xs[i + 1], c[j].2⟩ end0 hlo0 (by omega)
      rw [LL_for (γ := List Rect) c o (fun j o' => [(7, rectR.sl h.length o'), (14, .int .i64 ((2 * j : Nat) : Int))]) (fun _ o' => (h ++ [rectR.row 41 o']))
       (fun _ rest o' => (.exit 4, [(7, rectR.sl h.length (o' ++ emit ⟨xs[i], xs[i + 1], rest⟩)), (14, undef)], (h ++ [rectR.row 41 (o' ++ emit ⟨xs[i], xs[i + 1], rest⟩)]))) (fun j o' => o'.length = o.length + j) (by omega) rfl]
      ·simp -implicitDefEqProofs [k44_17, w1, trim_le, -Int.natCast_add]
       exact ih
      ·simp -implicitDefEqProofs [k44_17]
      ·rfl
      ·intro nx j o' hj _
       have e0 : emit ⟨xs[i], xs[i + 1], []⟩ = [] := rfl
       have w2 : IntKind.i64.wrap (((2 * j : Nat) : Int) + 1) = ((2 * j + 1 : Nat) : Int) := wrap64 (by omega) (by omega)
       have hjn : ¬ (((2 * j + 1 : Nat) : Int) < ((ends c).length : Int)) := by omega
       have hjn' : ¬ (2 * j + 1 < (ends c).length) := by omega
       simp -implicitDefEqProofs [r44_17, k44_17, iT_len, w2, hjn, e0, trim_le, -Int.natCast_add, -Int.natCast_mul]
      ·intro nx j s rest o' hj hv hd hw ho ih
       obtain ⟨g1, g2, g3, g4⟩ := ends_at hj
       have st := st17 o' j hj (by omega)
       rw [hv] at g3 g4 st
       have w2 : IntKind.i64.wrap (((2 * j : Nat) : Int) + 1) = ((2 * j + 1 : Nat) : Int) := wrap64 (by omega) (by omega)
       have w3 : IntKind.i64.wrap (((2 * j : Nat) : Int) + 2) = ((2 * (j + 1) : Nat) : Int) := (wrap64 (by omega) (by omega)).trans (by omega)
       have hjn : ((2 * j + 1 : Nat) : Int) < ((ends c).length : Int) := by omega
       have ixa := iT_index (l := ends c) (i := 2 * j) g1
       have ixb := iT_index (l := ends c) (i := 2 * j + 1) g2
       rw [g3] at ixa
       rw [g4] at ixb
       have ih := ih (o' ++ [⟨xs[i], s.1, xs[i + 1], s.2⟩]) (by rw [List.length_append]; show o'.length + 1 = _; omega)
       rw [emit_cons, ← List.append_assoc]
       simp -implicitDefEqProofs [k44_17, -List.append_assoc, -Int.natCast_add, -Int.natCast_mul] at ih
       simp -implicitDefEqProofs [r44_17, k44_17, iT_len, w1, w2, w3, hjn, ix0, ix1, ixa, ixb, b4_all, lit_rect, st, hl1, trim_le, -List.append_assoc, -Int.natCast_add, -Int.natCast_mul]
       exact ih
     ·simp -implicitDefEqProofs [r44_6, k44_6, iT_len, w1, hii, ix0, ret1 m60, ret1 m59, so, so2, so3, q1, q2, q3, gi, gc, Rec.sl_len, -Int.natCast_add]
      have st17 := fun (o' : List Rect) (j : Nat) (hj : j < c.length) (ho : o'.length ≤ 200000000) => app_rect (h := (h ++ [rectR.row 41 o'])) (b := h.length) (lo := lo) (c := o') ⟨xs[i], c[j].1, xs[i + 1], c[j].2⟩ end0 hlo0 (by omega)
      rw [LL_for (γ := List Rect) c o (fun j o' => [(7, rectR.sl h.length o'), (14, .int .i64 ((2 * j : Nat) : Int))]) (fun _ o' => (h ++ [rectR.row 41 o']))
       (fun _ rest o' => (.exit 4, [(7, rectR.sl h.length (o' ++ emit ⟨xs[i], xs[i + 1], rest⟩)), (14, undef)], (h ++ [rectR.row 41 (o' ++ emit ⟨xs[i], xs[i + 1], rest⟩)]))) (fun j o' => o'.length = o.length + j) (by omega) rfl]
      ·simp -implicitDefEqProofs [k44_17, w1, trim_le, -Int.natCast_add]
       exact ih
      ·simp -implicitDefEqProofs [k44_17]
      ·rfl
      ·intro nx j o' hj _
       have e0 : emit ⟨xs[i], xs[i + 1], []⟩ = [] := rfl
       have w2 : IntKind.i64.wrap (((2 * j : Nat) : Int) + 1) = ((2 * j + 1 : Nat) : Int) := wrap64 (by omega) (by omega)
       have hjn : ¬ (((2 * j + 1 : Nat) : Int) < ((ends c).length : Int)) := by omega
       have hjn' : ¬ (2 * j + 1 < (ends c).length) := by omega
       simp -implicitDefEqProofs [r44_17, k44_17, iT_len, w2, hjn, e0, trim_le, -Int.natCast_add, -Int.natCast_mul]
      ·intro nx j s rest o' hj hv hd hw ho ih
       obtain ⟨g1, g2, g3, g4⟩ := ends_at hj
       have st := st17 o' j hj (by omega)
       rw [hv] at g3 g4 st
       have w2 : IntKind.i64.wrap (((2 * j : Nat) : Int) + 1) = ((2 * j + 1 : Nat) : Int) := wrap64 (by omega) (by omega)
       have w3 : IntKind.i64.wrap (((2 * j : Nat) : Int) + 2) = ((2 * (j + 1) : Nat) : Int) := (wrap64 (by omega) (by omega)).trans (by omega)
       have hjn : ((2 * j + 1 : Nat) : Int) < ((ends c).length : Int) := by omega
       have ixa := iT_index (l := ends c) (i := 2 * j) g1
       have ixb := iT_index (l := ends c) (i := 2 * j + 1) g2
       rw [g3] at ixa
       rw [g4] at ixb
       have ih := ih (o' ++ [⟨xs[i], s.1, xs[i + 1], s.2⟩]) (by rw [List.length_append]; show o'.length + 1 = _; omega)
       rw [emit_cons, ← List.append_assoc]
       simp -implicitDefEqProofs [k44_17, -List.append_assoc, -Int.natCast_add, -Int.natCast_mul] at ih
       simp -implicitDefEqProofs [r44_17, k44_17, iT_len, w1, w2, w3, hjn, ix0, ix1, ixa, ixb, b4_all, lit_rect, st, hl1, trim_le, -List.append_assoc, -Int.natCast_add, -Int.natCast_mul]
       exact ih
    ·simp -implicitDefEqProofs [r44_6, k44_6, iT_len, w1, hii, ix0, ret1 m60, ret1 m59, so, so2, so3, q1, q2, q3, gi, Rec.sl_len, -Int.natCast_add]
     have st17 := fun (o' : List Rect) (j : Nat) (hj : j < c.length) (ho : o'.length ≤ 200000000) => app_rect (h := (h ++ [rectR.row 41 o'])) (b := h.length) (lo := lo) (c := o') ⟨xs[i], c[j].1, xs[i + 1], c[j].2⟩ end0 hlo0 (by omega)
     rw [LL_for (γ := List Rect) c o (fun j o' => [(7, rectR.sl h.length o'), (14, .int .i64 ((2 * j : Nat) : Int))]) (fun _ o' => (h ++ [rectR.row 41 o']))
      (fun _ rest o' => (.exit 4, [(7, rectR.sl h.length (o' ++ emit ⟨xs[i], xs[i + 1], rest⟩)), (14, undef)], (h ++ [rectR.row 41 (o' ++ emit ⟨xs[i], xs[i + 1], rest⟩)]))) (fun j o' => o'.length = o.length + j) (by omega) rfl]
     ·simp -implicitDefEqProofs [k44_17, w1, trim_le, -Int.natCast_add]
      exact ih
     ·simp -implicitDefEqProofs [k44_17]
     ·rfl
     ·intro nx j o' hj _
      have e0 : emit ⟨xs[i], xs[i + 1], []⟩ = [] := rfl
      have w2 : IntKind.i64.wrap (((2 * j : Nat) : Int) + 1) = ((2 * j + 1 : Nat) : Int) := wrap64 (by omega) (by omega)
      have hjn : ¬ (((2 * j + 1 : Nat) : Int) < ((ends c).length : Int)) := by omega
      have hjn' : ¬ (2 * j + 1 < (ends c).length) := by omega
      simp -implicitDefEqProofs [r44_17, k44_17, iT_len, w2, hjn, e0, trim_le, -Int.natCast_add, -Int.natCast_mul]
     ·intro nx j s rest o' hj hv hd hw ho ih
      obtain ⟨g1, g2, g3, g4⟩ := ends_at hj
      have st := st17 o' j hj (by omega)
      rw [hv] at g3 g4 st
      have w2 : IntKind.i64.wrap (((2 * j : Nat) : Int) + 1) = ((2 * j + 1 : Nat) : Int) := wrap64 (by omega) (by omega)
      have w3 : IntKind.i64.wrap (((2 * j : Nat) : Int) + 2) = ((2 * (j + 1) : Nat) : Int) := (wrap64 (by omega) (by omega)).trans (by omega)
      have hjn : ((2 * j + 1 : Nat) : Int) < ((ends c).length : Int) := by omega
      have ixa := iT_index (l := ends c) (i := 2 * j) g1
      have ixb := iT_index (l := ends c) (i := 2 * j + 1) g2
      rw [g3] at ixa
      rw [g4] at ixb
      have ih := ih (o' ++ [⟨xs[i], s.1, xs[i + 1], s.2⟩]) (by rw [List.length_append]; show o'.length + 1 = _; omega)
      rw [emit_cons, ← List.append_assoc]
      simp -implicitDefEqProofs [k44_17, -List.append_assoc, -Int.natCast_add, -Int.natCast_mul] at ih
      simp -implicitDefEqProofs [r44_17, k44_17, iT_len, w1, w2, w3, hjn, ix0, ix1, ixa, ixb, b4_all, lit_rect, st, hl1, trim_le, -List.append_assoc, -Int.natCast_add, -Int.natCast_mul]
      exact ih
  ·have hfin : i = S.length := by omega
   have hout : FS.out ⟨i, P, x0, w⟩ xs = F := by
    unfold FS.out
    by_cases hi0 : i = 0
    ·rw [if_pos hi0, ← hFe]
     have : S = [] := List.eq_nil_of_length_eq_zero (by omega)
     rw [this]; rfl
    ·rw [if_neg hi0]
     have h3 := h3 hi0
     rw [List.drop_of_length_le (by omega), Rg.runs_end] at h3
     exact h3
   have w1 : IntKind.i64.wrap ((i : Int) + 1) = ((i + 1 : Nat) : Int) := wrap64 (by omega) (by omega)
   have hii : ¬ (((i + 1 : Nat) : Int) < (xs.length : Int)) := by omega
   rw [hout]
   simp -implicitDefEqProofs [r44_6, k44_6, iT_len, w1, hii, trim_le, -Int.natCast_add]
theorem form_spec2 (k m : Option Bool) (a b : List Rect) (z : Int) (f : Bool → Bool → Bool) (hz : (z = 0 ∧ f = orF) ∨ (z = 1 ∧ f = andF) ∨ (z = 2 ∧ f = subF)) (hk : Rec.Ok k a) (hm : Rec.Ok m b) (hab : a.length + b.length ≤ 1000) (hya : ∀ r ∈ a, r.y0 < r.y1) (hyb : ∀ r ∈ b, r.y0 < r.y1)
  (h : Heap) (lo : Nat) (hlo : lo ≤ h.length) :
  retCall E (L E) lo false 44 [rectR.o k a, rectR.o m b, .int .i64 z] h = some (rectR.sl h.length (refL f a b), h ++ [rectR.row 41 (refL f a b)]) := by
 rw [ret3 m44]
 show ((L E 44 [rectR.o k a, rectR.o m b, .int .i64 z] h lo).map _) = _
 rw [form_L k m a b z f hz hk hm hab hya hyb h lo hlo]
 show some (_, trim _ _ _) = _
 rw [trim_no]
 have hn : ¬ (h.length < h.length) := Nat.lt_irrefl _
 exact decide_eq_false hn
theorem form_spec (k m : Option Bool) (a b : List Rect) (z : Int) (f : Bool → Bool → Bool) (hz : (z = 0 ∧ f = orF) ∨ (z = 1 ∧ f = andF) ∨ (z = 2 ∧ f = subF)) (hk : Rec.Ok k a) (hm : Rec.Ok m b) (ha : a.length ≤ 500) (hb : b.length ≤ 500) (hya : ∀ r ∈ a, r.y0 < r.y1) (hyb : ∀ r ∈ b, r.y0 < r.y1)
  (h : Heap) (lo : Nat) (hlo : lo ≤ h.length) :
  retCall E (L E) lo false 44 [rectR.o k a, rectR.o m b, .int .i64 z] h = some (rectR.sl h.length (refL f a b), h ++ [rectR.row 41 (refL f a b)]) :=
 form_spec2 k m a b z f hz hk hm (by omega) hya hyb h lo hlo
open Rg (Rect cell ofL opL)
theorem ref_of {l : List Rect} (hl : ∀ r ∈ l, r.y0 < r.y1) : refL orF l [] = ofL l := by
 obtain ⟨h1, h2⟩ := refL_ok orF rfl hl (fun r hr => absurd hr List.not_mem_nil)
 refine h1.ext (Rg.ofL_ok hl).1 fun x y => ?_
 rw [h2, (Rg.ofL_ok hl).2]
 exact Bool.or_false _
theorem rright_spec (r : Rect) : pureCall E.P (L E) 43 [rectR.val r] = some (.bool (okR r)) := by
 rw [pureCall_fn F43 rfl]
 simp -implicitDefEqProofs [r43, padS, rect_val]
 unfold okR
 by_cases h1 : 0 ≤ r.x0
 case neg => simp -implicitDefEqProofs [h1]
 by_cases h2 : r.x0 < r.x1
 case neg => simp -implicitDefEqProofs [h1, h2]
 by_cases h3 : r.x1 ≤ 1048576
 case neg => simp -implicitDefEqProofs [h1, h2, h3]
 by_cases h4 : 0 ≤ r.y0
 case neg => simp -implicitDefEqProofs [h1, h2, h3, h4]
 by_cases h5 : r.y0 < r.y1
 case neg => simp -implicitDefEqProofs [h1, h2, h3, h4, h5]
 simp -implicitDefEqProofs [h1, h2, h3, h4, h5]
theorem rright_s (r : Rect) : pureCall E.P (L E) 43 [.agg ⟨[.int .i64 r.x0, .int .i64 r.y0, .int .i64 r.x1, .int .i64 r.y1]⟩] = some (.bool (okR r)) := rright_spec r
theorem rof_spec (k : Option Bool) (l : List Rect) (hk : Rec.Ok k l) (hl : l.length ≤ 1000000) : pureCall E.P (L E) 18 [rectR.o k l] = some (resL (ofR l)) := by
 rw [pureCall_fn F18 rfl]
 simp -implicitDefEqProofs [r18, padS]
 rw [LL_for (γ := Unit) l () (fun i _ => [(4, .int .i64 i)]) (fun _ _ => []) (fun _ rest _ => if rest.all okR then (.exit 0, [(4, undef)], []) else (.ret, [(2, .slice none 0 0), (3, .int .i64 1), (4, undef)], [])) (fun _ _ => True) (by omega) trivial]
 ·unfold ofR
  cases ha : l.all okR
  ·simp -implicitDefEqProofs [k18_2, resL]
  ·by_cases h4 : 400 < l.length
   ·have h4i : 400 < (l.length : Int) := by omega
    simp -implicitDefEqProofs [k18_2, resL, h4, h4i, Rec.o_len hk]
   ·have h4' : ¬ (400 < (l.length : Int)) := by omega
    have hy := ofL_ok' ha
    have fs := form_spec k none l [] 0 orF (.inl ⟨rfl, rfl⟩) hk (fun _ => rfl) (by omega) (Nat.zero_le _) hy (fun r hr => absurd hr List.not_mem_nil) [] 0 (Nat.zero_le _)
    rw [ref_of hy] at fs
    simp only [List.length_nil, List.nil_append] at fs
    have rr := Rec.reify_row (R := rectR) (P := E.P) (h := [rectR.row 41 (ofL l)]) (b := 0) (n := 7) (t := 41) (l := ofL l) rfl s32 a32
    have en : rectR.o none ([] : List Rect) = .slice none 0 0 := rfl
    rw [en] at fs
    have so : settled depth (rectR.o k l) = true := Rec.o_set
    have so2 : settled depth (.slice none 0 0) = true := rfl
    have so3 : settled depth (.int .i64 0) = true := rfl
    by_cases h2 : (ofL l).length ≤ 200
    ·have h2' : ¬ (200 < ((ofL l).length : Int)) := by omega
     simp -implicitDefEqProofs [k18_2, resL, h4, h4', Rec.o_len hk, fs, rr, Rec.sl_len, h2, h2']
    ·have h2' : 200 < ((ofL l).length : Int) := by omega
     simp -implicitDefEqProofs [k18_2, resL, h4, h4', Rec.o_len hk, fs, Rec.sl_len, h2, h2']
 ·simp -implicitDefEqProofs [k18_2]
 ·rfl
 ·intro nx i c hi _
  simp -implicitDefEqProofs [r18_2, k18_2, hi, Rec.o_len hk, trim_le]
 ·intro nx i r rest c hi hv hd hw _ ih
  have ih := ih () trivial
  have ixi := Rec.o_index (R := rectR) (t := 41) (kk := .i64) (s := 4) rfl hk hi
  rw [hv] at ixi
  have hr := rright_s r
  cases h : okR r
  ·simp -implicitDefEqProofs [r18_2, k18_2, hi, ixi, Rec.o_len hk, rect_val, ret0 m43, hr, h, trim_le]
  ·simp -implicitDefEqProofs [k18_2] at ih
   simp -implicitDefEqProofs [r18_2, k18_2, hi, ixi, Rec.o_len hk, rect_val, ret0 m43, hr, h, hw, trim_le]
   exact ih
theorem rright2_spec (k : Option Bool) (l : List Rect) (hk : Rec.Ok k l) (hl : l.length ≤ 1000000) : pureCall E.P (L E) 5 [rectR.o k l] = some (.bool (regB l)) := by
 have ho := rof_spec k l hk hl
 have so : settled depth (rectR.o k l) = true := Rec.o_set
 rw [pureCall_fn F5 rfl]
 unfold regB
 have hle : ∀ m, ofR l = .ok m → m.length ≤ 200 := fun m h => by
  unfold ofR at h
  split at h
  ·split at h
   ·cases h
   ·split at h
    ·cases h; assumption
    ·cases h
  ·cases h
 have hne : ∀ e, ofR l = .error e → e = 1 ∨ e = 6 := fun m h => by
  unfold ofR at h
  split at h
  ·split at h
   ·cases h; exact .inr rfl
   ·split at h
    ·cases h
    ·cases h; exact .inr rfl
  ·cases h; exact .inl rfl
 cases h : ofR l with
 | error e =>
  rw [h] at ho
  have e0 : ¬ (e = 0) := by have := hne e h; omega
  simp only [resL] at ho
  simp -implicitDefEqProofs [r5, p5, ret1 m18, so, ho, e0]
 | ok m =>
  rw [h] at ho
  have he := same_rects (some false) k m l Rec.ok_some hk (by have := hle m h; omega)
  rw [show rectR.o (some false) m = lst false (rectR.vals m) from rfl] at he
  simp only [resL] at ho
  simp -implicitDefEqProofs [r5, p5, ret1 m18, so, ho, ret0 m11, Rec.o_reify, he]
open Rg (Rect areaL)
theorem sumN_le {f : Int → Int} {c : Int} (hf : ∀ i, 0 ≤ f i ∧ f i ≤ c) : ∀ (n : Nat), 0 ≤ Rg.sumN n f ∧ Rg.sumN n f ≤ (n : Int) * c
 | 0 => by simp [Rg.sumN]
 | n + 1 => by
  have h1 := sumN_le hf n
  have h2 := hf n
  show 0 ≤ Rg.sumN n f + f n ∧ Rg.sumN n f + f n ≤ ((n + 1 : Nat) : Int) * c
  have e : ((n + 1 : Nat) : Int) * c = (n : Int) * c + c := by rw [Int.natCast_add, Int.add_mul]; simp
  rw [e]; omega
theorem area_le {l : List Rect} (h : regB l = true) : 0 ≤ areaL l ∧ areaL l ≤ 1099511627776 := by
 obtain ⟨h1, _, h3⟩ := regB_iff.1 h
 obtain ⟨n, hn⟩ : ∃ n : Nat, (n : Int) = 1048576 := ⟨1048576, rfl⟩
 rw [Rg.area_form h3 (n := n) (fun r hr => by rw [hn]; exact okR_iff.1 (List.all_eq_true.1 h1 r hr))]
 unfold Rg.cnt
 have k := sumN_le (c := (n : Int) * 1) (f := fun x => Rg.sumN n fun y => Rg.bi (Rg.cell l x y)) (fun x => sumN_le (c := 1) (fun y => by unfold Rg.bi; split <;> decide) n) n
 rw [hn] at k
 omega
def areasF (P : List (List Rect)) : Option (List Int) := if P.length ≤ 12 ∧ P.all regB = true then some ((P.map areaL).takeWhile fun a => decide (a ≠ 0)) else none
theorem tw_mem {f : Int → Bool} {a : Int} : ∀ {l : List Int}, a ∈ l.takeWhile f → f a = true
 | [], h => by cases h
 | b :: l, h => by
  rw [List.takeWhile_cons] at h
  by_cases q : f b = true
  ·rw [if_pos q] at h
   rcases List.mem_cons.1 h with rfl | h
   ·exact q
   ·exact tw_mem h
  ·rw [if_neg q] at h; cases h
theorem areas_told {P : List (List Rect)} {A : List Int} (h : areasF P = some A) : A.length ≤ 12 ∧ ∀ a ∈ A, 1 ≤ a ∧ a ≤ 1099511627776 := by
 unfold areasF at h
 split at h
 ·rename_i hc
  have h := Option.some.inj h
  subst h
  refine ⟨?_, fun a ha => ?_⟩
  ·have := (List.takeWhile_prefix (fun a => decide (a ≠ (0 : Int))) (l := P.map areaL)).length_le
   rw [List.length_map] at this
   omega
  ·have h1 := tw_mem ha
   obtain ⟨l, hl, rfl⟩ := List.mem_map.1 ((List.takeWhile_prefix _).subset ha)
   have h2 := area_le (List.all_eq_true.1 hc.2 l hl)
   have h1 := of_decide_eq_true h1
   omega
 ·cases h
theorem idx_take : ∀ (l : List Int) (i : Int), 0 ≤ i → (idxB (fun a => decide ((0 : Int) = a)) l i = -1 → l.takeWhile (fun a => decide (a ≠ 0)) = l) ∧
  (idxB (fun a => decide ((0 : Int) = a)) l i ≠ -1 → i ≤ idxB (fun a => decide ((0 : Int) = a)) l i ∧ l.take (idxB (fun a => decide ((0 : Int) = a)) l i - i).toNat = l.takeWhile (fun a => decide (a ≠ 0)) ∧ (idxB (fun a => decide ((0 : Int) = a)) l i - i).toNat ≤ l.length)
 | [], i, _ => ⟨fun _ => rfl, fun h => absurd rfl h⟩
 | a :: l, i, hi => by
  rw [idxB_cons]
  by_cases h : (0 : Int) = a
  ·subst h
   rw [if_pos (by decide)]
   refine ⟨fun k => by omega, fun _ => ⟨Int.le_refl _, ?_, ?_⟩⟩
   ·rw [Int.sub_self]; simp
   ·rw [Int.sub_self]; simp
  ·rw [if_neg (by simpa using h)]
   have ih := idx_take l (i + 1) (by omega)
   have hne : decide (a ≠ 0) = true := decide_eq_true fun e => h e.symm
   rw [List.takeWhile_cons, if_pos hne]
   refine ⟨fun k => by rw [ih.1 k], fun k => ?_⟩
   obtain ⟨k1, k2, k3⟩ := ih.2 k
   generalize idxB (fun a => decide ((0 : Int) = a)) l (i + 1) = z at *
   have e : (z - i).toNat = (z - (i + 1)).toNat + 1 := by omega
   refine ⟨by omega, ?_, ?_⟩
   ·rw [e, List.take_succ_cons, k2]
   ·rw [e, List.length_cons]; omega
abbrev Rooms := List (Option Bool × List Rect)
def roomR (r : Option Bool × List Rect) : Value := rectR.o r.1 r.2
structure RoomsOk (P : Rooms) : Prop where
 ok : ∀ r ∈ P, Rec.Ok r.1 r.2
 few : ∀ r ∈ P, r.2.length ≤ 200
 len : P.length ≤ 13
def roomsV (x : Bool) (P : Rooms) : Value := lst x (P.map roomR)
def lists (P : Rooms) : List (List Rect) := P.map (·.2)
theorem rooms_len (h : Heap) (x : Bool) (P : Rooms) : lenT .sl h (roomsV x P) = some (.int .i64 P.length) := by unfold roomsV; rw [len_lst, List.length_map]
theorem rooms_index (x : Bool) (P : Rooms) (i : Nat) (hi : i < P.length) : indexAddrT (.sl 22 ⟨some false, some 1⟩) (roomsV x P) (.int .i64 (i : Int)) = some (cptr (roomR P[i])) := by
 have e : (P.map roomR)[i]? = some (roomR P[i]) := by rw [List.getElem?_map, List.getElem?_eq_getElem hi]; rfl
 unfold roomsV
 rw [index_lst, if_pos (by omega), Int.toNat_natCast, e, Option.bind_some]
 have f : fitsTT ⟨some false, some 1⟩ (roomR P[i]) = true := Rec.o_fits
 have c : cellsL (roomR P[i]) = [roomR P[i]] := Rec.o_cells1
 rw [f, c]; rfl
theorem rooms_load (h : Heap) (r : Option Bool × List Rect) : loadT ⟨some false, some 1⟩ h (cptr (roomR r)) = some (roomR r) := by
 have f : fitsTT ⟨some false, some 1⟩ (roomR r) = true := Rec.o_fits
 rw [load_cptr, if_pos f]
theorem room_reify (h : Heap) (r : Option Bool × List Rect) : reify E.P 8 h (roomR r) = some (roomR r) := Rec.o_reify
theorem room_right (r : Option Bool × List Rect) (h1 : Rec.Ok r.1 r.2) (h2 : r.2.length ≤ 200) : pureCall E.P (L E) 40 [roomR r] = some (.bool (regB r.2)) := right2_spec r.1 r.2 h1 (by omega)
theorem room_area (r : Option Bool × List Rect) (h1 : Rec.Ok r.1 r.2) (h2 : r.2.length ≤ 200) (h : regB r.2 = true) : pureCall E.P (L E) 41 [roomR r] = some (.int .i64 (areaL r.2)) := by
 have := area2_spec r.1 r.2 h1 (by omega)
 rw [h, if_pos rfl] at this
 exact this
end Go.Proofs.Ythkddpgnhaeooaa.Bm
namespace Go.Proofs.Ythkddpgnhaeooaa
open Go Go.RowKit Go.Shelf Go.Sort
def lays189_ren : Go.Shelf.Ren := ⟨fun | 189 => 21 | 125 => 46 | 257 => 45 | 128 => 71 | 129 => 72 | 294 => 62 | 295 => 63 | 296 => 64 | 297 => 65 | 298 => 66 | 299 => 67 | 216 => 68 | 300 => 69 | 301 => 70 | 328 => 79 | 329 => 80 | 330 => 81 | 331 => 82 | 332 => 83 | 215 => 84 | 343 => 89 | n => n, fun | 28 => 34 | 3 => 3 | 46 => 97 | 0 => 0 | 51 => 123 | 53 => 125 | 4 => 4 | 183 => 115 | 182 => 114 | 131 => 120 | 5 => 5 | 9 => 9 | 218 => 136 | 222 => 140 | 228 => 147 | 229 => 148 | n => n, fun | n => n⟩
theorem lays189 : Go.Proofs.Lays.n189 Try.prog lays189_ren := {
 mixed := by kernel_rfl
 f125 := Try.func46.trans (congrArg some (by kernel_rfl))
 f128 := Try.func71.trans (congrArg some (by kernel_rfl))
 f129 := Try.func72.trans (congrArg some (by kernel_rfl))
 f189 := Try.func21.trans (congrArg some (by kernel_rfl))
 f215 := Try.func84.trans (congrArg some (by kernel_rfl))
 f216 := Try.func68.trans (congrArg some (by kernel_rfl))
 f257 := Try.func45.trans (congrArg some (by kernel_rfl))
 f294 := Try.func62.trans (congrArg some (by kernel_rfl))
 f295 := Try.func63.trans (congrArg some (by kernel_rfl))
 f296 := Try.func64.trans (congrArg some (by kernel_rfl))
 f297 := Try.func65.trans (congrArg some (by kernel_rfl))
 f298 := Try.func66.trans (congrArg some (by kernel_rfl))
 f299 := Try.func67.trans (congrArg some (by kernel_rfl))
 f300 := Try.func69.trans (congrArg some (by kernel_rfl))
 f301 := Try.func70.trans (congrArg some (by kernel_rfl))
 f328 := Try.func79.trans (congrArg some (by kernel_rfl))
 f329 := Try.func80.trans (congrArg some (by kernel_rfl))
 f330 := Try.func81.trans (congrArg some (by kernel_rfl))
 f331 := Try.func82.trans (congrArg some (by kernel_rfl))
 f332 := Try.func83.trans (congrArg some (by kernel_rfl))
 f343 := Try.func89.trans (congrArg some (by kernel_rfl))
 t0 := Try.underlying0
 a0 := Try.isAgg0
 z0 := Try.sizeOf0
 v0 := Try.zeroValue0
 t3 := Try.underlying3
 a3 := Try.isAgg3
 z3 := Try.sizeOf3
 v3 := Try.zeroValue3
 t4 := Try.underlying4
 a4 := Try.isAgg4
 z4 := Try.sizeOf4
 v4 := Try.zeroValue4
 t5 := Try.underlying5
 a5 := Try.isAgg5
 z5 := Try.sizeOf5
 v5 := Try.zeroValue5
 t9 := Try.underlying9
 a9 := Try.isAgg9
 z9 := Try.sizeOf9
 v9 := Try.zeroValue9
 t28 := Try.underlying34
 a28 := Try.isAgg34
 z28 := Try.sizeOf34
 v28 := Try.zeroValue34
 t46 := Try.underlying97
 a46 := Try.isAgg97
 z46 := Try.sizeOf97
 v46 := Try.zeroValue97
 t51 := Try.underlying123
 a51 := Try.isAgg123
 z51 := Try.sizeOf123
 v51 := Try.zeroValue123
 t53 := Try.underlying125
 a53 := Try.isAgg125
 z53 := Try.sizeOf125
 v53 := Try.zeroValue125
 t131 := Try.underlying120
 a131 := Try.isAgg120
 z131 := Try.sizeOf120
 v131 := Try.zeroValue120
 t182 := Try.underlying114
 a182 := Try.isAgg114
 z182 := Try.sizeOf114
 v182 := Try.zeroValue114
 t183 := Try.underlying115
 a183 := Try.isAgg115
 z183 := Try.sizeOf115
 v183 := Try.zeroValue115
 t218 := Try.underlying136
 a218 := Try.isAgg136
 z218 := Try.sizeOf136
 v218 := Try.zeroValue136
 t222 := Try.underlying140
 a222 := Try.isAgg140
 z222 := Try.sizeOf140
 v222 := Try.zeroValue140
 t228 := Try.underlying147
 a228 := Try.isAgg147
 z228 := Try.sizeOf147
 v228 := Try.zeroValue147
 t229 := Try.underlying148
 a229 := Try.isAgg148
 z229 := Try.sizeOf148
 v229 := Try.zeroValue148 }
theorem conSort : Bm.SortCon Try.prog 21 Bm.sortI none where
 row blk off cap zs w hH hblk hsz _ := by
  rw [← Bm.sortI_eq]
  exact Any.slices_Sort_int lays189 blk off cap zs w hH hblk hsz
 none p cap w := Any.slices_Sort_int_none lays189 p cap w
 dfd := ⟨_, Try.func21, rfl⟩
 len := Bm.sortI_len
 cut := fun _ h => by cases h
end Go.Proofs.Ythkddpgnhaeooaa
namespace Go.Proofs.Ythkddpgnhaeooaa
open Go Go.RowKit Go.Shelf Go.Sort
def laysNm220_ren : Go.Shelf.Ren := ⟨fun | 20 => 22 | n => n, fun | 22 => 34 | 3 => 3 | 4 => 4 | 0 => 0 | n => n, fun | n => n⟩
theorem laysNm220 : Go.Proofs.Lays2.n20 Try.prog laysNm220_ren := {
 mixed := by kernel_rfl
 f20 := Try.func22.trans (congrArg some (by kernel_rfl))
 t0 := Try.underlying0
 a0 := Try.isAgg0
 z0 := Try.sizeOf0
 v0 := Try.zeroValue0
 t3 := Try.underlying3
 a3 := Try.isAgg3
 z3 := Try.sizeOf3
 v3 := Try.zeroValue3
 t4 := Try.underlying4
 a4 := Try.isAgg4
 z4 := Try.sizeOf4
 v4 := Try.zeroValue4
 t22 := Try.underlying34
 a22 := Try.isAgg34
 z22 := Try.sizeOf34
 v22 := Try.zeroValue34
 i3 := by kernel_rfl }
theorem conComp : Bm.SortCon Try.prog 22 Bm.compF (some Bm.compN) where
 row blk off cap zs w hH hblk hsz hc := (Any.slices_Compact_int laysNm220 blk off cap zs w hH (by omega) hc).mono fun e w' h => by
  rw [Bm.compact_eq] at h
  exact ⟨h.1, h.2.imp fun n k => ⟨#[], by rw [k]; exact (grow_empty _).symm⟩⟩
 none p cap w := Any.slices_Compact_int_empty laysNm220 p cap w
 dfd := ⟨_, Try.func22, rfl⟩
 len := Bm.compF_len
 cut := fun m h zs => by cases h; exact Bm.compG_len zs none
end Go.Proofs.Ythkddpgnhaeooaa
namespace Go.Proofs.Ythkddpgnhaeooaa
open Go Go.RowKit Go.Shelf Go.Sort
theorem flatK_flat (d : Array (Int × Int)) : flatK spanV 2 d = (d.toList.flatMap spanV).toArray := by
 obtain ⟨l⟩ := d
 refine ext_get! (by rw [size_flatK]; show l.length * 2 = (l.flatMap spanV).length; rw [flat_len]) fun t ht => ?_
 have ht' : t < l.length * 2 := by simpa using ht
 rw [get_flatK spanV 2 ⟨l⟩ t ht']
 have e : (l.flatMap spanV).toArray[t]! = (l.flatMap spanV)[t]! := by simp
 have e2 : ∀ i, (l.toArray)[i]! = l[i]! := fun i => by first | rfl | exact (List.getElem!_toArray ..) | (by_cases h : i < l.length <;> simp [h])
 show (spanV l.toArray[t / 2]!)[t % 2]! = (l.flatMap spanV).toArray[t]!
 rw [e, flat_get l t ht', e2]
def laysSpan_ren : Go.Shelf.Ren := ⟨fun | 6 => 86 | 15 => 46 | 14 => 90 | 28 => 71 | 29 => 72 | 20 => 91 | 21 => 92 | 22 => 93 | 23 => 94 | 24 => 95 | 25 => 96 | 26 => 97 | 27 => 98 | 46 => 99 | 47 => 80 | 48 => 81 | 49 => 100 | 50 => 101 | 57 => 102 | n => n, fun | 22 => 129 | 24 => 131 | 25 => 146 | 3 => 3 | 39 => 97 | 0 => 0 | 53 => 123 | 55 => 125 | 4 => 4 | 46 => 115 | 45 => 114 | 50 => 120 | 5 => 5 | 9 => 9 | 66 => 136 | 70 => 140 | 76 => 147 | 77 => 148 | n => n, fun | n => n⟩
theorem laysSpan : Go.Proofs.SlLaysF0.n6 Try.prog laysSpan_ren := {
 mixed := by kernel_rfl
 f6 := ⟨Try.f86.name, by decide, Try.func86.trans (congrArg some (by kernel_rfl))⟩
 f14 := ⟨Try.f90.name, by decide, Try.func90.trans (congrArg some (by kernel_rfl))⟩
 f15 := Try.func46.trans (congrArg some (by kernel_rfl))
 f20 := ⟨Try.f91.name, by decide, Try.func91.trans (congrArg some (by kernel_rfl))⟩
 f21 := ⟨Try.f92.name, by decide, Try.func92.trans (congrArg some (by kernel_rfl))⟩
 f22 := ⟨Try.f93.name, by decide, Try.func93.trans (congrArg some (by kernel_rfl))⟩
 f23 := ⟨Try.f94.name, by decide, Try.func94.trans (congrArg some (by kernel_rfl))⟩
 f24 := ⟨Try.f95.name, by decide, Try.func95.trans (congrArg some (by kernel_rfl))⟩
 f25 := ⟨Try.f96.name, by decide, Try.func96.trans (congrArg some (by kernel_rfl))⟩
 f26 := ⟨Try.f97.name, by decide, Try.func97.trans (congrArg some (by kernel_rfl))⟩
 f27 := ⟨Try.f98.name, by decide, Try.func98.trans (congrArg some (by kernel_rfl))⟩
 f28 := Try.func71.trans (congrArg some (by kernel_rfl))
 f29 := Try.func72.trans (congrArg some (by kernel_rfl))
 f46 := ⟨Try.f99.name, by decide, Try.func99.trans (congrArg some (by kernel_rfl))⟩
 f47 := Try.func80.trans (congrArg some (by kernel_rfl))
 f48 := Try.func81.trans (congrArg some (by kernel_rfl))
 f49 := ⟨Try.f100.name, by decide, Try.func100.trans (congrArg some (by kernel_rfl))⟩
 f50 := ⟨Try.f101.name, by decide, Try.func101.trans (congrArg some (by kernel_rfl))⟩
 f57 := ⟨Try.f102.name, by decide, Try.func102.trans (congrArg some (by kernel_rfl))⟩
 t0 := Try.underlying0
 a0 := Try.isAgg0
 z0 := Try.sizeOf0
 v0 := Try.zeroValue0
 t3 := Try.underlying3
 a3 := Try.isAgg3
 z3 := Try.sizeOf3
 v3 := Try.zeroValue3
 t4 := Try.underlying4
 a4 := Try.isAgg4
 z4 := Try.sizeOf4
 v4 := Try.zeroValue4
 t5 := Try.underlying5
 a5 := Try.isAgg5
 z5 := Try.sizeOf5
 v5 := Try.zeroValue5
 t9 := Try.underlying9
 a9 := Try.isAgg9
 z9 := Try.sizeOf9
 v9 := Try.zeroValue9
 t22 := Try.underlying129
 a22 := Try.isAgg129
 z22 := Try.sizeOf129
 v22 := Try.zeroValue129
 t25 := Try.underlying146
 a25 := Try.isAgg146
 z25 := Try.sizeOf146
 v25 := Try.zeroValue146
 t39 := Try.underlying97
 a39 := Try.isAgg97
 z39 := Try.sizeOf97
 v39 := Try.zeroValue97
 t45 := Try.underlying114
 a45 := Try.isAgg114
 z45 := Try.sizeOf114
 v45 := Try.zeroValue114
 t46 := Try.underlying115
 a46 := Try.isAgg115
 z46 := Try.sizeOf115
 v46 := Try.zeroValue115
 t50 := Try.underlying120
 a50 := Try.isAgg120
 z50 := Try.sizeOf120
 v50 := Try.zeroValue120
 t53 := Try.underlying123
 a53 := Try.isAgg123
 z53 := Try.sizeOf123
 v53 := Try.zeroValue123
 t55 := Try.underlying125
 a55 := Try.isAgg125
 z55 := Try.sizeOf125
 v55 := Try.zeroValue125
 t66 := Try.underlying136
 a66 := Try.isAgg136
 z66 := Try.sizeOf136
 v66 := Try.zeroValue136
 t70 := Try.underlying140
 a70 := Try.isAgg140
 z70 := Try.sizeOf140
 v70 := Try.zeroValue140
 t76 := Try.underlying147
 a76 := Try.isAgg147
 z76 := Try.sizeOf147
 v76 := Try.zeroValue147
 t77 := Try.underlying148
 a77 := Try.isAgg148
 z77 := Try.sizeOf148
 v77 := Try.zeroValue148 }
set_option maxHeartbeats 1000000 in
theorem nan_walk (x : Int) (W : World) : Calls Try.prog 84 #[.int .i64 x] W fun e w' => e = .returned (.bool false) ∧ w' = W := by
 go_enter Try.func84, Try.ntmps84
 go_wp2
 go_ret
 exact ⟨rfl, rfl⟩
set_option maxHeartbeats 1000000 in
theorem compare_walk (x y : Int) (W : World) : Calls Try.prog 88 #[.int .i64 x, .int .i64 y] W fun e w' => e = .returned (.int .i64 (cmpI x y)) ∧ w' = W := by
 unfold cmpI
 have h1 := fun x W => nan_walk x W
 go_enter Try.func88, Try.ntmps88
 by_cases hxy : x < y
 ·rw [if_pos hxy]
  go_wp2_with (go_at_call 84; refine (h1 _ _).mono ?_; rintro e w' ⟨rfl, rfl⟩)
  go_ret
  exact ⟨rfl, rfl⟩
 ·rw [if_neg hxy]
  by_cases hyx : y < x
  ·rw [if_pos hyx]
   go_wp2_with (go_at_call 84; refine (h1 _ _).mono ?_; rintro e w' ⟨rfl, rfl⟩)
   go_ret
   exact ⟨rfl, rfl⟩
  ·rw [if_neg hyx]
   go_wp2_with (go_at_call 84; refine (h1 _ _).mono ?_; rintro e w' ⟨rfl, rfl⟩)
   go_ret
   exact ⟨rfl, rfl⟩
set_option maxHeartbeats 1000000 in
theorem closure_walk (x y : Int × Int) (W : World) : Calls Try.prog 87 #[.agg #[.int .i64 x.1, .int .i64 x.2], .agg #[.int .i64 y.1, .int .i64 y.2]] W fun e w' => e = .returned (.int .i64 (cmpS x y)) ∧ ∃ q os', w' = grow (W.drewN q) os' := by
 have hcon := fun W' => compare_walk x.1 y.1 W'
 unfold cmpS
 generalize cmpI x.1 y.1 = r at hcon ⊢
 go_enter Try.func87, Try.ntmps87
 go_wp2_with (go_at_call 88; refine (hcon _).mono ?_; rintro e w' ⟨rfl, rfl⟩)
 go_ret
 exact ⟨rfl, 0, _, by rw [alloc_eq_grow, alloc_eq_grow, grow_grow]; rfl⟩
theorem ltO_eq (cf : (Int × Int) → (Int × Int) → Int) : ltO cf = ltOf cf := rfl
theorem conSpan : Bm.CellCon Try.prog 86 87 2 sortSF where
 row blk off cap n c d w hF hc hH hblk h0 hn hcap := by
  unfold sortSF at hF
  cases e : spanD c with
  | none => rw [e] at hF; cases hF
  | some l =>
   rw [e] at hF; cases hF
   have ec := spanD_some e
   subst ec
   have hl : l.toArray.size = n := by
    rw [flat_len] at hc
    simp; omega
   have eg : ∀ args w, (callFunc 87 args).run Try.prog w = .ok (.enter 87 args) w := enters_of Try.func87 (by kernel_rfl) rfl
   have con := AnyQ.slices_SortFunc_eq laysSpan 2 Try.isAgg131 Try.sizeOf131 spanV (fun _ => rfl) (fun x v hv => by simp [spanV] at hv; rcases hv with rfl | rfl <;> rfl) cmpS (ltO_eq cmpS ▸ swoS) 87 #[] blk off cap l.toArray w eg (fun _ _ _ _ x y => closure_walk x y _) (by unfold HoldsK; rw [flatK_flat]; exact hH) hblk (by rw [hl]; exact hn)
   change Calls Try.prog 86 _ _ _ at con
   rw [hl] at con
   refine con.mono fun e w' he => ⟨he.1, ?_⟩
   obtain ⟨m, os, rfl⟩ := he.2
   refine ⟨m, os, ?_⟩
   unfold sortWorldK putRowK
   rw [flatK_flat]
   show _ = grow (putRow id (Sort.ahead w m) blk off ((sortS l).flatMap spanV).toArray) os
   unfold sortS
   rw [hl, ltO_eq]
 none p cap w := AnyF.slices_SortFunc_none laysSpan p cap _ w
 dfd := ⟨_, Try.func86, rfl⟩
 len c d h := by
  unfold sortSF at h
  cases e : spanD c with
  | none => rw [e] at h; cases h
  | some l =>
   rw [e] at h; cases h
   rw [spanD_some e, flat_len, flat_len, (sortS_perm l).length_eq]
 atoms c d h := by
  unfold sortSF at h
  cases e : spanD c with
  | none => rw [e] at h; cases h
  | some l =>
   rw [e] at h; cases h
   have key : ∀ l : List (Int × Int), (l.flatMap spanV).all Bm.atom = true := by
    intro l
    induction l with
    | nil => rfl
    | cons x l ih => rw [List.flatMap_cons, List.all_append, ih]; rfl
   exact ⟨by rw [spanD_some e]; exact key _, key _⟩
 pos := by decide
end Go.Proofs.Ythkddpgnhaeooaa
