/-
  Chapter 18: the statement on the choice of zones, walked. Conditions: a plan that fits in memory.
-/
import Derived.Test.YtimjfondgdhfcaaQB23
namespace Go.Proofs.Ytimjfondgdhfcaa.Bm
open Go Go.RowKit
open Rg (Rect Slab runs runsF outT emit stripL mergeC colC edgesX ends swp cell)

/-! ### Plain -/
def refC (f : Bool → Bool → Bool) (a b : List Rect) (x : Int) : List (Int × Int) := mergeC f (colC a x) (colC b x)
def refL (f : Bool → Bool → Bool) (a b : List Rect) : List Rect := outT (runsF (stripL (refC f a b) (edgesX (a ++ b))))
theorem refC_ok (f : Bool → Bool → Bool) (hf : f false false = false) {a b : List Rect} (ha : ∀ r ∈ a, r.y0 < r.y1) (hb : ∀ r ∈ b, r.y0 < r.y1) (x : Int) : Rg.Can (refC f a b x) ∧ ∀ y, Rg.hasS (refC f a b x) y = f (cell a x y) (cell b x y) := by
  obtain ⟨h1, h2⟩ := Rg.mergeC_ok f hf (Rg.colC_ok ha x).1 (Rg.colC_ok hb x).1
  refine ⟨h1, fun y => ?_⟩
  rw [show Rg.hasS (refC f a b x) y = _ from h2 y, (Rg.colC_ok ha x).2, (Rg.colC_ok hb x).2]
theorem refL_ok (f : Bool → Bool → Bool) (hf : f false false = false) {a b : List Rect} (ha : ∀ r ∈ a, r.y0 < r.y1) (hb : ∀ r ∈ b, r.y0 < r.y1) : Rg.Form (refL f a b) ∧ ∀ x y, cell (refL f a b) x y = f (cell a x y) (cell b x y) := by
  have h1 : Rg.Steps (a ++ b) (cell a) := (Rg.cell_steps a).mono fun r hr => List.mem_append_left _ hr
  have h2 : Rg.Steps (a ++ b) (cell b) := (Rg.cell_steps b).mono fun r hr => List.mem_append_right _ hr
  exact Rg.strips_form (h1.op h2 f hf) (Rg.sortU_asc _) (Rg.edgesX_all _) (refC f a b) (fun x => (refC_ok f hf ha hb x).1) fun x _ y => (refC_ok f hf ha hb x).2 y
theorem next_run {x0 x1 : Int} {w : List (Int × Int)} {s : Slab} {T : List Slab} (h : s.col = [] ∨ s.col ≠ w) : outT (runs ⟨x0, x1, w⟩ (s :: T)) = emit ⟨x0, x1, w⟩ ++ outT (runs s T) := by
  by_cases e : s.col = w
  · have h0 : s.col = [] := h.resolve_right fun h => h e
    have hw : w = [] := by rw [← e, h0]
    subst hw
    rw [Rg.runs_none (s := ⟨x0, x1, []⟩) rfl, Rg.emit_nil (s := ⟨x0, x1, []⟩) rfl]; rfl
  · exact Rg.runs_stop (s := ⟨x0, x1, w⟩) e
theorem stripL_get (c : Int → List (Int × Int)) : ∀ (xs : List Int) (i : Nat) (h : i + 1 < xs.length), ∃ hs : i < (stripL c xs).length, (stripL c xs)[i] = ⟨xs[i], xs[i + 1], c xs[i]⟩
  | [], i, h => by simp at h
  | [_], i, h => by simp at h
  | a :: b :: xs, 0, _ => ⟨Nat.succ_pos _, rfl⟩
  | a :: b :: xs, i + 1, h => by
    obtain ⟨hs, e⟩ := stripL_get c (b :: xs) i (by simpa using h)
    exact ⟨Nat.succ_lt_succ hs, e⟩
theorem emit_len (s : Slab) : (emit s).length = s.col.length := List.length_map _
theorem emit_app (x0 x1 : Int) (c d : List (Int × Int)) : emit ⟨x0, x1, c ++ d⟩ = emit ⟨x0, x1, c⟩ ++ emit ⟨x0, x1, d⟩ := List.map_append
theorem ends_even : ∀ {c : List (Int × Int)} {j : Nat} (hj : j < c.length), (ends c)[2 * j]? = some c[j].1 ∧ (ends c)[2 * j + 1]? = some c[j].2
  | [], j, hj => by simp at hj
  | s :: c, 0, _ => ⟨rfl, rfl⟩
  | s :: c, j + 1, hj => ends_even (c := c) (j := j) (by simpa using hj)
theorem ends_at {c : List (Int × Int)} {j : Nat} (hj : j < c.length) : ∃ (h1 : 2 * j < (ends c).length) (h2 : 2 * j + 1 < (ends c).length), (ends c)[2 * j] = c[j].1 ∧ (ends c)[2 * j + 1] = c[j].2 := by
  have hl := Rg.ends_len c
  obtain ⟨e1, e2⟩ := ends_even hj
  refine ⟨by omega, by omega, ?_, ?_⟩
  · rw [List.getElem?_eq_getElem (by omega)] at e1; exact Option.some.inj e1
  · rw [List.getElem?_eq_getElem (by omega)] at e2; exact Option.some.inj e2

theorem out_get {P : List Rect} {x0 x1 x2 : Int} {c : List (Int × Int)} {j : Nat} (hj : j < c.length) :
    (P ++ (emit ⟨x0, x2, c.take j⟩ ++ emit ⟨x0, x1, c.drop j⟩))[P.length + j]? = some ⟨x0, c[j].1, x1, c[j].2⟩ := by
  rw [List.getElem?_append_right (by omega), Nat.add_sub_cancel_left, List.getElem?_append_right (by rw [emit_len]; simp; omega)]
  have e : (emit ⟨x0, x2, c.take j⟩).length = j := by rw [emit_len]; simp; omega
  rw [e, Nat.sub_self, List.drop_eq_getElem_cons hj]; rfl
theorem out_set {P : List Rect} {x0 x1 x2 : Int} {c : List (Int × Int)} {j : Nat} (hj : j < c.length) :
    (P ++ (emit ⟨x0, x2, c.take j⟩ ++ emit ⟨x0, x1, c.drop j⟩)).set (P.length + j) ⟨x0, c[j].1, x2, c[j].2⟩ = P ++ (emit ⟨x0, x2, c.take (j + 1)⟩ ++ emit ⟨x0, x1, c.drop (j + 1)⟩) := by
  have e : (emit ⟨x0, x2, c.take j⟩).length = j := by rw [emit_len]; simp; omega
  rw [List.set_append_right _ _ (by omega), Nat.add_sub_cancel_left, List.set_append_right _ _ (by omega), e, Nat.sub_self, List.drop_eq_getElem_cons hj, List.take_succ_eq_append_getElem hj, emit_app, List.append_assoc]
  rfl
theorem out_len {P : List Rect} {x0 x1 x2 : Int} {c : List (Int × Int)} {j : Nat} : (P ++ (emit ⟨x0, x2, c.take j⟩ ++ emit ⟨x0, x1, c.drop j⟩)).length = P.length + c.length := by
  rw [List.length_append, List.length_append, emit_len, emit_len, ← List.length_append]
  simp only [List.take_append_drop]
theorem rect_sl {b : Nat} {c d : List Rect} (h : c.length = d.length) : rectR.sl b c = rectR.sl b d := by unfold Rec.sl; rw [h]

/-- What is written so far. -/
structure FS where
  i : Nat
  P : List Rect
  x0 : Int
  w : List (Int × Int)
def FS.out (s : FS) (xs : List Int) : List Rect := if s.i = 0 then [] else s.P ++ emit ⟨s.x0, xs.getD s.i 0, s.w⟩
def FS.was (s : FS) : Value := if s.i = 0 then .slice none 0 0 else iT (ends s.w)
def bnd (i : Nat) : Nat := (i + 1) * 5000
theorem bnd_succ (i : Nat) : bnd (i + 1) = bnd i + 5000 := by unfold bnd; omega
theorem bnd_le {i : Nat} (h : i ≤ 2000) : bnd i ≤ 100000000 := by unfold bnd; omega
def FS.ok (s : FS) (xs : List Int) (S : List Slab) (F : List Rect) : Prop := s.i ≤ S.length ∧ (s.i = 0 → s.P = []) ∧ (s.i ≠ 0 → s.P ++ outT (runs ⟨s.x0, xs.getD s.i 0, s.w⟩ (S.drop s.i)) = F) ∧ s.P.length + s.w.length ≤ bnd s.i ∧ s.w.length ≤ 5000
theorem swp_len (f : Bool → Bool → Bool) : ∀ (A B : List Int) (p q w : Bool), (swp f A B p q w).length ≤ A.length + B.length
  | [], [], _, _, _ => by simp [swp]
  | a :: A, [], p, q, w => by
    have := swp_len f A [] (!p) q (f (!p) q)
    rw [swp, List.length_append]
    split <;> simp at * <;> omega
  | [], b :: B, p, q, w => by
    have := swp_len f [] B p (!q) (f p (!q))
    rw [swp, List.length_append]
    split <;> simp at * <;> omega
  | a :: A, b :: B, p, q, w => by
    have h1 := swp_len f A (b :: B) (!p) q (f (!p) q)
    have h2 := swp_len f (a :: A) B p (!q) (f p (!q))
    have h3 := swp_len f A B (!p) (!q) (f (!p) (!q))
    rw [swp]
    split
    · rw [List.length_append]; split <;> simp at * <;> omega
    · split
      · rw [List.length_append]; split <;> simp at * <;> omega
      · rw [List.length_append]; split <;> simp at * <;> omega
termination_by A B => A.length + B.length

set_option maxHeartbeats 4000000 in
theorem form_L (k m : Option Bool) (a b : List Rect) (z : Int) (f : Bool → Bool → Bool) (hz : (z = 0 ∧ f = orF) ∨ (z = 1 ∧ f = andF) ∨ (z = 2 ∧ f = subF)) (hk : Rec.Ok k a) (hm : Rec.Ok m b) (hab : a.length + b.length ≤ 1000) (hya : ∀ r ∈ a, r.y0 < r.y1) (hyb : ∀ r ∈ b, r.y0 < r.y1)
    (h : Heap) (lo : Nat) (hlo0 : lo ≤ h.length) :
    L E 22 [rectR.o k a, rectR.o m b, .int .i64 z] h lo = some (rectR.sl h.length (refL f a b), h ++ [rectR.row 55 (refL f a b)]) := by
  have ha : a.length ≤ 1000 := by omega
  have hb : b.length ≤ 1000 := by omega
  have hl1 : ∀ x : AObj, (h ++ [x]).length = h.length + 1 := fun x => by simp
  have hf : f false false = false := by rcases hz with ⟨_, rfl⟩ | ⟨_, rfl⟩ | ⟨_, rfl⟩ <;> rfl
  have ed := edges_spec k m a b hk hm (by omega) (by omega)
  have col : ∀ x, ∃ ca cb, pureCall E.P (L E) 45 [rectR.o k a, .int .i64 x] = some (iT ca) ∧ pureCall E.P (L E) 45 [rectR.o m b, .int .i64 x] = some (iT cb) ∧ pureCall E.P (L E) 44 [iT ca, iT cb, .int .i64 z] = some (iT (ends (refC f a b x))) ∧ (refC f a b x).length ≤ 2000 := fun x => by
    have c1 := rcolumn_spec k a x hk (by omega)
    have c2 := rcolumn_spec m b x hm (by omega)
    rw [ref_col hya] at c1
    rw [ref_col hyb] at c2
    have l1 := Rg.colC_len a x
    have l2 := Rg.colC_len b x
    have l3 := Rg.ends_len (colC a x)
    have l4 := Rg.ends_len (colC b x)
    have c3 := rcombine_spec (ends (colC a x)) (ends (colC b x)) z f hz (by omega) (by omega)
    obtain ⟨q1, q2⟩ := Rg.mergeC_ok f hf (Rg.colC_ok hya x).1 (Rg.colC_ok hyb x).1
    have e := Rg.swp_col f hf (Rg.colC_ok hya x).1 (Rg.colC_ok hyb x).1 q1 q2
    have ll := swp_len f (ends (colC a x)) (ends (colC b x)) false false false
    rw [e] at c3 ll
    rw [Rg.ends_len] at ll
    exact ⟨_, _, c1, c2, c3, by show (mergeC f (colC a x) (colC b x)).length ≤ 2000; omega⟩
  have hxs : (edgesX (a ++ b)).length ≤ 2000 := by
    have := Rg.edgesX_len (a ++ b)
    rw [List.length_append] at this; omega
  have so : ∀ k l, settled depth (rectR.o k l) = true := fun k l => Rec.o_set
  have so2 : ∀ l, settled depth (iT l) = true := fun _ => rfl
  have so3 : ∀ z, settled depth (.int .i64 z) = true := fun _ => rfl
  rw [L_fn F22 rfl]
  simp -implicitDefEqProofs [r22, p22, prep_new, newK_nil s32, ret1 m43, so, ed]
  unfold refL
  generalize hxe : edgesX (a ++ b) = xs at hxs ⊢
  have hSl := Rg.stripL_len (refC f a b) xs
  have hSg := stripL_get (refC f a b) xs
  generalize hSe : stripL (refC f a b) xs = S at hSl hSg ⊢
  generalize hFe : outT (runsF S) = F
  rw [LL_rec (α := FS) ⟨0, [], 0, []⟩ (fun s => [(7, rectR.sl h.length (s.out xs)), (9, s.was), (10, .int .i64 (s.P.length : Int)), (11, .int .i64 (s.i : Int))]) (fun s => (h ++ [rectR.row 55 (s.out xs)]))
    (fun _ => (.exit 0, [(7, rectR.sl h.length F), (9, undef), (10, undef), (11, undef)], (h ++ [rectR.row 55 F]))) (fun s => s.ok xs S F) (fun s => S.length - s.i)]
  · simp -implicitDefEqProofs [k22_6]
  · exact ⟨Nat.zero_le _, fun _ => rfl, fun h => absurd rfl h, Nat.zero_le _, Nat.zero_le _⟩
  · simp -implicitDefEqProofs [k22_6, FS.out, FS.was, Rec.sl_nil]
  · rfl
  · intro nx s hI ih
    obtain ⟨i, P, x0, w⟩ := s
    obtain ⟨h1, h2, h3, h4, h5⟩ := hI
    simp only at h1 h2 h3 h4 h5
    have hS2 : S.length ≤ 2000 := by omega
    have hgx : ∀ j (hj : j < xs.length), xs.getD j 0 = xs[j] := fun j hj => by rw [List.getD_eq_getElem?_getD, List.getElem?_eq_getElem hj]; rfl
    by_cases hi : i + 1 < xs.length
    · obtain ⟨hs, eS⟩ := hSg i hi
      have hdS : S.drop i = ⟨xs[i], xs[i + 1], refC f a b xs[i]⟩ :: S.drop (i + 1) := by rw [List.drop_eq_getElem_cons hs, eS]
      obtain ⟨ca, cb, q1, q2, q3, q4⟩ := col xs[i]
      generalize refC f a b xs[i] = c at q3 q4 hdS
      have w1 : IntKind.i64.wrap ((i : Int) + 1) = ((i + 1 : Nat) : Int) := wrap64 (by omega) (by omega)
      have hii : ((i + 1 : Nat) : Int) < (xs.length : Int) := by omega
      have ix0 := iT_index (l := xs) (i := i) (by omega)
      have ix1 := iT_index (l := xs) (i := i + 1) hi
      have hel := Rg.ends_len c
      have gx0 := hgx i (by omega)
      have gx1 := hgx (i + 1) hi
      by_cases hmg : i ≠ 0 ∧ c ≠ [] ∧ c = w
      · obtain ⟨hi0, hc0, hcw⟩ := hmg
        subst hcw
        have h3 := h3 hi0
        rw [hdS, Rg.runs_step (s := ⟨x0, xs.getD i 0, c⟩) (u := ⟨xs[i], xs[i + 1], c⟩) rfl] at h3
        have h4' : P.length + c.length ≤ bnd (i + 1) := by rw [bnd_succ]; omega
        have ih := ih ⟨i + 1, P, x0, c⟩ (by show S.length - (i + 1) < S.length - i; omega) ⟨by show i + 1 ≤ S.length; omega, fun h => absurd h (Nat.succ_ne_zero i), fun _ => by show P ++ outT (runs ⟨x0, xs.getD (i + 1) 0, c⟩ (S.drop (i + 1))) = F; rw [gx1]; exact h3, h4', h5⟩
        have eo : FS.out ⟨i, P, x0, c⟩ xs = P ++ emit ⟨x0, xs[i], c⟩ := by unfold FS.out; rw [if_neg hi0, gx0]
        have eo1 : FS.out ⟨i + 1, P, x0, c⟩ xs = P ++ emit ⟨x0, xs[i + 1], c⟩ := by unfold FS.out; rw [if_neg (Nat.succ_ne_zero i), gx1]
        have ew : FS.was ⟨i, P, x0, c⟩ = iT (ends c) := if_neg hi0
        have ew1 : FS.was ⟨i + 1, P, x0, c⟩ = iT (ends c) := if_neg (Nat.succ_ne_zero i)
        simp only [eo1, ew1] at ih
        simp only [eo, ew]
        have hipos : (0 : Int) < (i : Int) := by omega
        have hiposN : 0 < i := by omega
        have hcpos : 0 < c.length := List.length_pos_iff.2 hc0
        have hepos : 0 < (ends c).length := by omega
        have hepos' : (0 : Int) < ((ends c).length : Int) := by omega
        have ci := ints_spec (ends c) (ends c) (by omega)
        rw [decide_eq_true rfl] at ci
        have hlo : (P ++ emit ⟨x0, xs[i], c⟩).length = P.length + c.length := by rw [List.length_append, emit_len]
        simp -implicitDefEqProofs [k22_6] at ih
        simp -implicitDefEqProofs [r22_6, k22_6, iT_len, w1, hii, ix0, ret1 m45, ret1 m44, so, so2, so3, q1, q2, q3, hiposN, hepos, ret0 m46, iT_reify, ci, -Int.natCast_add]
        rw [LL_rec (α := Nat) 0 (fun j => [(13, .int .i64 ((P.length + j : Nat) : Int))]) (fun j => (h ++ [rectR.row 55 (P ++ (emit ⟨x0, xs[i + 1], c.take j⟩ ++ emit ⟨x0, xs[i], c.drop j⟩))]))
          (fun _ => (.exit 2, [(13, undef)], (h ++ [rectR.row 55 (P ++ emit ⟨x0, xs[i + 1], c⟩)]))) (fun j => j ≤ c.length) (fun j => c.length - j)]
        · have esl : rectR.sl h.length (P ++ emit ⟨x0, xs[i + 1], c⟩) = rectR.sl h.length (P ++ emit ⟨x0, xs[i], c⟩) := rect_sl (by rw [List.length_append, List.length_append, emit_len, emit_len])
          rw [esl] at ih
          simp -implicitDefEqProofs [k22_11, w1, trim_le, -Int.natCast_add]
          exact ih
        · exact Nat.zero_le _
        · simp -implicitDefEqProofs [k22_11]
        · rfl
        · intro nx j hj ih
          by_cases hjc : j < c.length
          · have ih := ih (j + 1) (by omega) (by omega)
            have hgt : P.length + j < (P ++ (emit ⟨x0, xs[i + 1], c.take j⟩ ++ emit ⟨x0, xs[i], c.drop j⟩)).length := by rw [out_len]; omega
            have eg : (P ++ (emit ⟨x0, xs[i + 1], c.take j⟩ ++ emit ⟨x0, xs[i], c.drop j⟩))[P.length + j] = ⟨x0, c[j].1, xs[i], c[j].2⟩ := by
              have := out_get (P := P) (x0 := x0) (x1 := xs[i]) (x2 := xs[i + 1]) hjc
              rw [List.getElem?_eq_getElem hgt] at this
              exact Option.some.inj this
            have es := out_set (P := P) (x0 := x0) (x1 := xs[i]) (x2 := xs[i + 1]) hjc
            have esl : rectR.sl h.length (P ++ emit ⟨x0, xs[i], c⟩) = rectR.sl h.length (P ++ (emit ⟨x0, xs[i + 1], c.take j⟩ ++ emit ⟨x0, xs[i], c.drop j⟩)) := rect_sl (by rw [out_len, hlo])
            have w2 : IntKind.i64.wrap (((P.length + j : Nat) : Int) + 1) = ((P.length + (j + 1) : Nat) : Int) := by
              have := bnd_le (i := i) (by omega)
              exact (wrap64 (by omega) (by omega)).trans (by omega)
            have hlt : ((P.length + j : Nat) : Int) < ((P.length + c.length : Nat) : Int) := by omega
            have hltN : P.length + j < P.length + c.length := by omega
            have ixr := Rec.index_row (R := rectR) (h0 := 4) (t := 55) (g := some true) (b := h.length) (l := P ++ (emit ⟨x0, xs[i + 1], c.take j⟩ ++ emit ⟨x0, xs[i], c.drop j⟩)) (i := P.length + j) (k := .i64) rfl hgt
            rw [← esl] at ixr
            have fdr := Rec.field_row (R := rectR) (b := h.length) (n := 0) (f := 2) (l := P ++ (emit ⟨x0, xs[i + 1], c.take j⟩ ++ emit ⟨x0, xs[i], c.drop j⟩)) (i := P.length + j) (k := ⟨some true, some 4⟩) (g := some false)
            have str := Rec.store_cell (R := rectR) (h := (h ++ [rectR.row 55 (P ++ (emit ⟨x0, xs[i + 1], c.take j⟩ ++ emit ⟨x0, xs[i], c.drop j⟩))])) (b := h.length) (j := 2) (lo := lo) (t := 55) (l := P ++ (emit ⟨x0, xs[i + 1], c.take j⟩ ++ emit ⟨x0, xs[i], c.drop j⟩)) (i := P.length + j) (v := .int .i64 xs[i + 1]) (a := ⟨x0, c[j].1, xs[i + 1], c[j].2⟩) rfl end0 hlo0 hgt (by decide) (by rw [eg]; rfl)
            rw [es] at str
            generalize P ++ (emit ⟨x0, xs[i + 1], c.take j⟩ ++ emit ⟨x0, xs[i], c.drop j⟩) = oj at *
            generalize P ++ (emit ⟨x0, xs[i + 1], c.take (j + 1)⟩ ++ emit ⟨x0, xs[i], c.drop (j + 1)⟩) = oj1 at *
            generalize hQ : ((P.length + j : Nat) : Int) = Q at *
            generalize hQ1 : ((P.length + (j + 1) : Nat) : Int) = Q1 at *
            simp -implicitDefEqProofs [k22_11] at ih
            simp -implicitDefEqProofs [r22_11, k22_11, Rec.sl_len, hlo, hlt, w1, w2, ix1, ixr, fdr, str, hl1, trim_le, -Int.natCast_add, -List.length_append]
            exact ih
          · have e1 : c.take j = c := List.take_of_length_le (by omega)
            have e2 : c.drop j = [] := List.drop_of_length_le (by omega)
            have e3 : emit ⟨x0, xs[i], []⟩ = [] := rfl
            have hlt : ¬ (((P.length + j : Nat) : Int) < ((P.length + c.length : Nat) : Int)) := by omega
            have hltN : ¬ (P.length + j < P.length + c.length) := by omega
            rw [e1, e2, e3, List.append_nil]
            simp -implicitDefEqProofs [r22_11, k22_11, Rec.sl_len, hlo, hlt, hl1, trim_le, -Int.natCast_add, -List.length_append]
      · have hnx : c = [] ∨ (i ≠ 0 → c ≠ w) := by
          by_cases h0 : c = []
          · exact .inl h0
          · exact .inr fun hi0 he => hmg ⟨hi0, h0, he⟩
        obtain ⟨o, ho⟩ : ∃ o, o = FS.out ⟨i, P, x0, w⟩ xs := ⟨_, rfl⟩
        have hol : o.length ≤ bnd i := by
          rw [ho]; unfold FS.out
          split
          · exact Nat.zero_le _
          · rw [List.length_append, emit_len]; exact h4
        have hbi := bnd_le (i := i) (by omega)
        have h4' : o.length + c.length ≤ bnd (i + 1) := by rw [bnd_succ]; omega
        have hnew : o ++ outT (runs ⟨xs[i], xs[i + 1], c⟩ (S.drop (i + 1))) = F := by
          rw [ho]; unfold FS.out
          by_cases hi0 : i = 0
          · rw [if_pos hi0, List.nil_append, ← hFe]
            subst hi0
            rw [List.drop_zero] at hdS
            rw [hdS]; rfl
          · rw [if_neg hi0]
            have h3 := h3 hi0
            rw [hdS, next_run (s := ⟨xs[i], xs[i + 1], c⟩) (by rcases hnx with h | h; exact .inl h; exact .inr (h hi0)), ← List.append_assoc] at h3
            exact h3
        have ih := ih ⟨i + 1, o, xs[i], c⟩ (by show S.length - (i + 1) < S.length - i; omega) ⟨by show i + 1 ≤ S.length; omega, fun h => absurd h (Nat.succ_ne_zero i), fun _ => by show o ++ outT (runs ⟨xs[i], xs.getD (i + 1) 0, c⟩ (S.drop (i + 1))) = F; rw [gx1]; exact hnew, h4', by show c.length ≤ 5000; omega⟩
        have eo1 : FS.out ⟨i + 1, o, xs[i], c⟩ xs = o ++ emit ⟨xs[i], xs[i + 1], c⟩ := by unfold FS.out; rw [if_neg (Nat.succ_ne_zero i), gx1]
        have ew1 : FS.was ⟨i + 1, o, xs[i], c⟩ = iT (ends c) := if_neg (Nat.succ_ne_zero i)
        simp only [eo1, ew1] at ih
        simp only [← ho]
        simp -implicitDefEqProofs [k22_6, -Int.natCast_add] at ih
        have three : i = 0 ∨ (i ≠ 0 ∧ c = []) ∨ (i ≠ 0 ∧ c ≠ [] ∧ c ≠ w) := by
          by_cases hi0 : i = 0
          · exact .inl hi0
          · by_cases hc0 : c = []
            · exact .inr (.inl ⟨hi0, hc0⟩)
            · exact .inr (.inr ⟨hi0, hc0, fun e => hmg ⟨hi0, hc0, e⟩⟩)
        have hG : (0 < i ∧ 0 < (ends c).length → FS.was ⟨i, P, x0, w⟩ = iT (ends w) ∧ decide (ends c = ends w) = false) := fun ⟨h, h'⟩ => by
          have hi0 : i ≠ 0 := by omega
          refine ⟨if_neg hi0, decide_eq_false fun e => ?_⟩
          have ecw : c = w := by rw [← Rg.pairs_ends c, e, Rg.pairs_ends]
          rcases hnx with h0 | h0
          · subst h0; simp [ends] at h'
          · exact h0 hi0 ecw
        have cw := ints_spec (ends c) (ends w) (by omega)
        generalize FS.was ⟨i, P, x0, w⟩ = wv at hG ⊢
        by_cases gi : 0 < i
        · by_cases gc : 0 < (ends c).length
          · obtain ⟨ew, ed⟩ := hG ⟨gi, gc⟩
            rw [ed] at cw
            subst ew
            simp -implicitDefEqProofs [r22_6, k22_6, iT_len, w1, hii, ix0, ret1 m45, ret1 m44, so, so2, so3, q1, q2, q3, gi, gc, ret0 m46, iT_reify, cw, Rec.sl_len, -Int.natCast_add]
            have st17 := fun (o' : List Rect) (j : Nat) (hj : j < c.length) (ho : o'.length ≤ 200000000) => app_rect (h := (h ++ [rectR.row 55 o'])) (b := h.length) (lo := lo) (c := o') ⟨xs[i], c[j].1, xs[i + 1], c[j].2⟩ end0 hlo0 (by omega)
            rw [LL_for (γ := List Rect) c o (fun j o' => [(7, rectR.sl h.length o'), (14, .int .i64 ((2 * j : Nat) : Int))]) (fun _ o' => (h ++ [rectR.row 55 o']))
              (fun _ rest o' => (.exit 4, [(7, rectR.sl h.length (o' ++ emit ⟨xs[i], xs[i + 1], rest⟩)), (14, undef)], (h ++ [rectR.row 55 (o' ++ emit ⟨xs[i], xs[i + 1], rest⟩)]))) (fun j o' => o'.length = o.length + j) (by omega) rfl]
            · simp -implicitDefEqProofs [k22_17, w1, trim_le, -Int.natCast_add]
              exact ih
            · simp -implicitDefEqProofs [k22_17]
            · rfl
            · intro nx j o' hj _
              have e0 : emit ⟨xs[i], xs[i + 1], []⟩ = [] := rfl
              have w2 : IntKind.i64.wrap (((2 * j : Nat) : Int) + 1) = ((2 * j + 1 : Nat) : Int) := wrap64 (by omega) (by omega)
              have hjn : ¬ (((2 * j + 1 : Nat) : Int) < ((ends c).length : Int)) := by omega
              have hjn' : ¬ (2 * j + 1 < (ends c).length) := by omega
              simp -implicitDefEqProofs [r22_17, k22_17, iT_len, w2, hjn, e0, trim_le, -Int.natCast_add, -Int.natCast_mul]
            · intro nx j s rest o' hj hv hd hw ho ih
              obtain ⟨g1, g2, g3, g4⟩ := ends_at hj
              have st := st17 o' j hj (by omega)
              rw [hv] at g3 g4 st
              have w2 : IntKind.i64.wrap (((2 * j : Nat) : Int) + 1) = ((2 * j + 1 : Nat) : Int) := wrap64 (by omega) (by omega)
              have w3 : IntKind.i64.wrap (((2 * j : Nat) : Int) + 2) = ((2 * (j + 1) : Nat) : Int) := (wrap64 (by omega) (by omega)).trans (by omega)
              have hjn : ((2 * j + 1 : Nat) : Int) < ((ends c).length : Int) := by omega
              have ixa := iT_index (l := ends c) (i := 2 * j) g1
              have ixb := iT_index (l := ends c) (i := 2 * j + 1) g2
              rw [g3] at ixa
              rw [g4] at ixb
              have ih := ih (o' ++ [⟨xs[i], s.1, xs[i + 1], s.2⟩]) (by rw [List.length_append]; show o'.length + 1 = _; omega)
              rw [emit_cons, ← List.append_assoc]
              simp -implicitDefEqProofs [k22_17, -List.append_assoc, -Int.natCast_add, -Int.natCast_mul] at ih
              simp -implicitDefEqProofs [r22_17, k22_17, iT_len, w1, w2, w3, hjn, ix0, ix1, ixa, ixb, b4_all, lit_rect, st, hl1, trim_le, -List.append_assoc, -Int.natCast_add, -Int.natCast_mul]
              exact ih
          · simp -implicitDefEqProofs [r22_6, k22_6, iT_len, w1, hii, ix0, ret1 m45, ret1 m44, so, so2, so3, q1, q2, q3, gi, gc, Rec.sl_len, -Int.natCast_add]
            have st17 := fun (o' : List Rect) (j : Nat) (hj : j < c.length) (ho : o'.length ≤ 200000000) => app_rect (h := (h ++ [rectR.row 55 o'])) (b := h.length) (lo := lo) (c := o') ⟨xs[i], c[j].1, xs[i + 1], c[j].2⟩ end0 hlo0 (by omega)
            rw [LL_for (γ := List Rect) c o (fun j o' => [(7, rectR.sl h.length o'), (14, .int .i64 ((2 * j : Nat) : Int))]) (fun _ o' => (h ++ [rectR.row 55 o']))
              (fun _ rest o' => (.exit 4, [(7, rectR.sl h.length (o' ++ emit ⟨xs[i], xs[i + 1], rest⟩)), (14, undef)], (h ++ [rectR.row 55 (o' ++ emit ⟨xs[i], xs[i + 1], rest⟩)]))) (fun j o' => o'.length = o.length + j) (by omega) rfl]
            · simp -implicitDefEqProofs [k22_17, w1, trim_le, -Int.natCast_add]
              exact ih
            · simp -implicitDefEqProofs [k22_17]
            · rfl
            · intro nx j o' hj _
              have e0 : emit ⟨xs[i], xs[i + 1], []⟩ = [] := rfl
              have w2 : IntKind.i64.wrap (((2 * j : Nat) : Int) + 1) = ((2 * j + 1 : Nat) : Int) := wrap64 (by omega) (by omega)
              have hjn : ¬ (((2 * j + 1 : Nat) : Int) < ((ends c).length : Int)) := by omega
              have hjn' : ¬ (2 * j + 1 < (ends c).length) := by omega
              simp -implicitDefEqProofs [r22_17, k22_17, iT_len, w2, hjn, e0, trim_le, -Int.natCast_add, -Int.natCast_mul]
            · intro nx j s rest o' hj hv hd hw ho ih
              obtain ⟨g1, g2, g3, g4⟩ := ends_at hj
              have st := st17 o' j hj (by omega)
              rw [hv] at g3 g4 st
              have w2 : IntKind.i64.wrap (((2 * j : Nat) : Int) + 1) = ((2 * j + 1 : Nat) : Int) := wrap64 (by omega) (by omega)
              have w3 : IntKind.i64.wrap (((2 * j : Nat) : Int) + 2) = ((2 * (j + 1) : Nat) : Int) := (wrap64 (by omega) (by omega)).trans (by omega)
              have hjn : ((2 * j + 1 : Nat) : Int) < ((ends c).length : Int) := by omega
              have ixa := iT_index (l := ends c) (i := 2 * j) g1
              have ixb := iT_index (l := ends c) (i := 2 * j + 1) g2
              rw [g3] at ixa
              rw [g4] at ixb
              have ih := ih (o' ++ [⟨xs[i], s.1, xs[i + 1], s.2⟩]) (by rw [List.length_append]; show o'.length + 1 = _; omega)
              rw [emit_cons, ← List.append_assoc]
              simp -implicitDefEqProofs [k22_17, -List.append_assoc, -Int.natCast_add, -Int.natCast_mul] at ih
              simp -implicitDefEqProofs [r22_17, k22_17, iT_len, w1, w2, w3, hjn, ix0, ix1, ixa, ixb, b4_all, lit_rect, st, hl1, trim_le, -List.append_assoc, -Int.natCast_add, -Int.natCast_mul]
              exact ih
        · simp -implicitDefEqProofs [r22_6, k22_6, iT_len, w1, hii, ix0, ret1 m45, ret1 m44, so, so2, so3, q1, q2, q3, gi, Rec.sl_len, -Int.natCast_add]
          have st17 := fun (o' : List Rect) (j : Nat) (hj : j < c.length) (ho : o'.length ≤ 200000000) => app_rect (h := (h ++ [rectR.row 55 o'])) (b := h.length) (lo := lo) (c := o') ⟨xs[i], c[j].1, xs[i + 1], c[j].2⟩ end0 hlo0 (by omega)
          rw [LL_for (γ := List Rect) c o (fun j o' => [(7, rectR.sl h.length o'), (14, .int .i64 ((2 * j : Nat) : Int))]) (fun _ o' => (h ++ [rectR.row 55 o']))
            (fun _ rest o' => (.exit 4, [(7, rectR.sl h.length (o' ++ emit ⟨xs[i], xs[i + 1], rest⟩)), (14, undef)], (h ++ [rectR.row 55 (o' ++ emit ⟨xs[i], xs[i + 1], rest⟩)]))) (fun j o' => o'.length = o.length + j) (by omega) rfl]
          · simp -implicitDefEqProofs [k22_17, w1, trim_le, -Int.natCast_add]
            exact ih
          · simp -implicitDefEqProofs [k22_17]
          · rfl
          · intro nx j o' hj _
            have e0 : emit ⟨xs[i], xs[i + 1], []⟩ = [] := rfl
            have w2 : IntKind.i64.wrap (((2 * j : Nat) : Int) + 1) = ((2 * j + 1 : Nat) : Int) := wrap64 (by omega) (by omega)
            have hjn : ¬ (((2 * j + 1 : Nat) : Int) < ((ends c).length : Int)) := by omega
            have hjn' : ¬ (2 * j + 1 < (ends c).length) := by omega
            simp -implicitDefEqProofs [r22_17, k22_17, iT_len, w2, hjn, e0, trim_le, -Int.natCast_add, -Int.natCast_mul]
          · intro nx j s rest o' hj hv hd hw ho ih
            obtain ⟨g1, g2, g3, g4⟩ := ends_at hj
            have st := st17 o' j hj (by omega)
            rw [hv] at g3 g4 st
            have w2 : IntKind.i64.wrap (((2 * j : Nat) : Int) + 1) = ((2 * j + 1 : Nat) : Int) := wrap64 (by omega) (by omega)
            have w3 : IntKind.i64.wrap (((2 * j : Nat) : Int) + 2) = ((2 * (j + 1) : Nat) : Int) := (wrap64 (by omega) (by omega)).trans (by omega)
            have hjn : ((2 * j + 1 : Nat) : Int) < ((ends c).length : Int) := by omega
            have ixa := iT_index (l := ends c) (i := 2 * j) g1
            have ixb := iT_index (l := ends c) (i := 2 * j + 1) g2
            rw [g3] at ixa
            rw [g4] at ixb
            have ih := ih (o' ++ [⟨xs[i], s.1, xs[i + 1], s.2⟩]) (by rw [List.length_append]; show o'.length + 1 = _; omega)
            rw [emit_cons, ← List.append_assoc]
            simp -implicitDefEqProofs [k22_17, -List.append_assoc, -Int.natCast_add, -Int.natCast_mul] at ih
            simp -implicitDefEqProofs [r22_17, k22_17, iT_len, w1, w2, w3, hjn, ix0, ix1, ixa, ixb, b4_all, lit_rect, st, hl1, trim_le, -List.append_assoc, -Int.natCast_add, -Int.natCast_mul]
            exact ih
    · have hfin : i = S.length := by omega
      have hout : FS.out ⟨i, P, x0, w⟩ xs = F := by
        unfold FS.out
        by_cases hi0 : i = 0
        · rw [if_pos hi0, ← hFe]
          have : S = [] := List.eq_nil_of_length_eq_zero (by omega)
          rw [this]; rfl
        · rw [if_neg hi0]
          have h3 := h3 hi0
          rw [List.drop_of_length_le (by omega), Rg.runs_end] at h3
          exact h3
      have w1 : IntKind.i64.wrap ((i : Int) + 1) = ((i + 1 : Nat) : Int) := wrap64 (by omega) (by omega)
      have hii : ¬ (((i + 1 : Nat) : Int) < (xs.length : Int)) := by omega
      rw [hout]
      simp -implicitDefEqProofs [r22_6, k22_6, iT_len, w1, hii, trim_le, -Int.natCast_add]
theorem form_spec2 (k m : Option Bool) (a b : List Rect) (z : Int) (f : Bool → Bool → Bool) (hz : (z = 0 ∧ f = orF) ∨ (z = 1 ∧ f = andF) ∨ (z = 2 ∧ f = subF)) (hk : Rec.Ok k a) (hm : Rec.Ok m b) (hab : a.length + b.length ≤ 1000) (hya : ∀ r ∈ a, r.y0 < r.y1) (hyb : ∀ r ∈ b, r.y0 < r.y1)
    (h : Heap) (lo : Nat) (hlo : lo ≤ h.length) :
    retCall E (L E) lo false 22 [rectR.o k a, rectR.o m b, .int .i64 z] h = some (rectR.sl h.length (refL f a b), h ++ [rectR.row 55 (refL f a b)]) := by
  rw [ret3 m22]
  show ((L E 22 [rectR.o k a, rectR.o m b, .int .i64 z] h lo).map _) = _
  rw [form_L k m a b z f hz hk hm hab hya hyb h lo hlo]
  show some (_, trim _ _ _) = _
  rw [trim_no]
  have hn : ¬ (h.length < h.length) := Nat.lt_irrefl _
  exact decide_eq_false hn
theorem form_spec (k m : Option Bool) (a b : List Rect) (z : Int) (f : Bool → Bool → Bool) (hz : (z = 0 ∧ f = orF) ∨ (z = 1 ∧ f = andF) ∨ (z = 2 ∧ f = subF)) (hk : Rec.Ok k a) (hm : Rec.Ok m b) (ha : a.length ≤ 500) (hb : b.length ≤ 500) (hya : ∀ r ∈ a, r.y0 < r.y1) (hyb : ∀ r ∈ b, r.y0 < r.y1)
    (h : Heap) (lo : Nat) (hlo : lo ≤ h.length) :
    retCall E (L E) lo false 22 [rectR.o k a, rectR.o m b, .int .i64 z] h = some (rectR.sl h.length (refL f a b), h ++ [rectR.row 55 (refL f a b)]) :=
  form_spec2 k m a b z f hz hk hm (by omega) hya hyb h lo hlo
end Go.Proofs.Ytimjfondgdhfcaa.Bm

namespace Go.Proofs.Ytimjfondgdhfcaa.Bm
open Go Go.RowKit
open Rg (Rect cell ofL opL)

theorem ref_of {l : List Rect} (hl : ∀ r ∈ l, r.y0 < r.y1) : refL orF l [] = ofL l := by
  obtain ⟨h1, h2⟩ := refL_ok orF rfl hl (fun r hr => absurd hr List.not_mem_nil)
  refine h1.ext (Rg.ofL_ok hl).1 fun x y => ?_
  rw [h2, (Rg.ofL_ok hl).2]
  exact Bool.or_false _
theorem rright_spec (r : Rect) : pureCall E.P (L E) 62 [rectR.val r] = some (.bool (okR r)) := by
  rw [pureCall_fn F62 rfl]
  simp -implicitDefEqProofs [r62, padS, rect_val]
  unfold okR
  by_cases h1 : 0 ≤ r.x0
  case neg => simp -implicitDefEqProofs [h1]
  by_cases h2 : r.x0 < r.x1
  case neg => simp -implicitDefEqProofs [h1, h2]
  by_cases h3 : r.x1 ≤ 1048576
  case neg => simp -implicitDefEqProofs [h1, h2, h3]
  by_cases h4 : 0 ≤ r.y0
  case neg => simp -implicitDefEqProofs [h1, h2, h3, h4]
  by_cases h5 : r.y0 < r.y1
  case neg => simp -implicitDefEqProofs [h1, h2, h3, h4, h5]
  simp -implicitDefEqProofs [h1, h2, h3, h4, h5]
theorem rright_s (r : Rect) : pureCall E.P (L E) 62 [.agg ⟨[.int .i64 r.x0, .int .i64 r.y0, .int .i64 r.x1, .int .i64 r.y1]⟩] = some (.bool (okR r)) := rright_spec r
theorem rof_spec (k : Option Bool) (l : List Rect) (hk : Rec.Ok k l) (hl : l.length ≤ 1000000) : pureCall E.P (L E) 36 [rectR.o k l] = some (resL (ofR l)) := by
  rw [pureCall_fn F36 rfl]
  simp -implicitDefEqProofs [r36, padS]
  rw [LL_for (γ := Unit) l () (fun i _ => [(4, .int .i64 i)]) (fun _ _ => []) (fun _ rest _ => if rest.all okR then (.exit 0, [(4, undef)], []) else (.ret, [(2, .slice none 0 0), (3, .int .i64 1), (4, undef)], [])) (fun _ _ => True) (by omega) trivial]
  · unfold ofR
    cases ha : l.all okR
    · simp -implicitDefEqProofs [k36_2, resL]
    · by_cases h4 : 400 < l.length
      · have h4i : 400 < (l.length : Int) := by omega
        simp -implicitDefEqProofs [k36_2, resL, h4, h4i, Rec.o_len hk]
      · have h4' : ¬ (400 < (l.length : Int)) := by omega
        have hy := ofL_ok' ha
        have fs := form_spec k none l [] 0 orF (.inl ⟨rfl, rfl⟩) hk (fun _ => rfl) (by omega) (Nat.zero_le _) hy (fun r hr => absurd hr List.not_mem_nil) [] 0 (Nat.zero_le _)
        rw [ref_of hy] at fs
        simp only [List.length_nil, List.nil_append] at fs
        have rr := Rec.reify_row (R := rectR) (P := E.P) (h := [rectR.row 55 (ofL l)]) (b := 0) (n := 7) (t := 55) (l := ofL l) rfl s32 a32
        have en : rectR.o none ([] : List Rect) = .slice none 0 0 := rfl
        rw [en] at fs
        have so : settled depth (rectR.o k l) = true := Rec.o_set
        have so2 : settled depth (.slice none 0 0) = true := rfl
        have so3 : settled depth (.int .i64 0) = true := rfl
        by_cases h2 : (ofL l).length ≤ 200
        · have h2' : ¬ (200 < ((ofL l).length : Int)) := by omega
          simp -implicitDefEqProofs [k36_2, resL, h4, h4', Rec.o_len hk, fs, rr, Rec.sl_len, h2, h2']
        · have h2' : 200 < ((ofL l).length : Int) := by omega
          simp -implicitDefEqProofs [k36_2, resL, h4, h4', Rec.o_len hk, fs, Rec.sl_len, h2, h2']
  · simp -implicitDefEqProofs [k36_2]
  · rfl
  · intro nx i c hi _
    simp -implicitDefEqProofs [r36_2, k36_2, hi, Rec.o_len hk, trim_le]
  · intro nx i r rest c hi hv hd hw _ ih
    have ih := ih () trivial
    have ixi := Rec.o_index (R := rectR) (t := 55) (kk := .i64) (s := 4) rfl hk hi
    rw [hv] at ixi
    have hr := rright_s r
    cases h : okR r
    · simp -implicitDefEqProofs [r36_2, k36_2, hi, ixi, Rec.o_len hk, rect_val, ret0 m62, hr, h, trim_le]
    · simp -implicitDefEqProofs [k36_2] at ih
      simp -implicitDefEqProofs [r36_2, k36_2, hi, ixi, Rec.o_len hk, rect_val, ret0 m62, hr, h, hw, trim_le]
      exact ih
theorem rright2_spec (k : Option Bool) (l : List Rect) (hk : Rec.Ok k l) (hl : l.length ≤ 1000000) : pureCall E.P (L E) 20 [rectR.o k l] = some (.bool (regB l)) := by
  have ho := rof_spec k l hk hl
  have so : settled depth (rectR.o k l) = true := Rec.o_set
  rw [pureCall_fn F20 rfl]
  unfold regB
  have hle : ∀ m, ofR l = .ok m → m.length ≤ 200 := fun m h => by
    unfold ofR at h
    split at h
    · split at h
      · cases h
      · split at h
        · cases h; assumption
        · cases h
    · cases h
  have hne : ∀ e, ofR l = .error e → e = 1 ∨ e = 6 := fun m h => by
    unfold ofR at h
    split at h
    · split at h
      · cases h; exact .inr rfl
      · split at h
        · cases h
        · cases h; exact .inr rfl
    · cases h; exact .inl rfl
  cases h : ofR l with
  | error e =>
    rw [h] at ho
    have e0 : ¬ (e = 0) := by have := hne e h; omega
    simp only [resL] at ho
    simp -implicitDefEqProofs [r20, p20, ret1 m36, so, ho, e0]
  | ok m =>
    rw [h] at ho
    have he := same_rects (some false) k m l Rec.ok_some hk (by have := hle m h; omega)
    rw [show rectR.o (some false) m = lst false (rectR.vals m) from rfl] at he
    simp only [resL] at ho
    simp -implicitDefEqProofs [r20, p20, ret1 m36, so, ho, ret0 m37, Rec.o_reify, he]
end Go.Proofs.Ytimjfondgdhfcaa.Bm

namespace Go.Proofs.Ytimjfondgdhfcaa.Bm
open Go Go.RowKit
open Rg (Rect Pt Zn rightP polyL comA comP Once cell opL)

theorem sharesL_len (zs : List Zn) (a : List Rect) : (sharesL zs a).length = zs.length := List.length_map _
end Go.Proofs.Ytimjfondgdhfcaa.Bm

namespace Go.Proofs.Ytimjfondgdhfcaa.Bm
open Go Go.RowKit
open Rg (Rect Pt Zn rightP polyL comA comP Once cell opL bestW isO namesF noBet inL)

theorem wZ_leng {zs : List Zn} {a : List Rect} (ra : regB a = true) : (wZ zs a).length = zs.length := by unfold wZ; rw [ra, if_pos rfl, List.length_map]
theorem noBet_cons {n m : Int} {i k : Nat} {z : Zn} {W : List (Zn × Int)} : noBet n i k ((z, m) :: W) = ((z.ov || !(decide (n < m) || (decide (m = n) && decide (k < i)))) && noBet n i (k + 1) W) := rfl
set_option maxHeartbeats 4000000 in
theorem chooses_law (p : Pl) (a : List Rect) (hl : p.zs.length ≤ 9223372036854775807) : ∃ h', L E 4 [p.val, lst false (rectR.vals a)] [] 0 = some (.bool true, h') := by
  refine ⟨[plO p p.zv], ?_⟩
  have eo : ∀ l, lst false (rectR.vals l) = rectR.o (some false) l := fun _ => rfl
  rw [eo]
  have op0 := @op_bel
  have blz : ∀ d n, below (d + 1) n p.zv = true := fun d n => rfl
  have sm := small_spec
  have fa := few_spec p (rectR.o (some false) a) a.length (fun h => Rec.o_len Rec.ok_some) (fun _ _ => Rec.o_bel) hl
  have rp := fun h => p.reify h
  have sp := p.set
  have ro : ∀ h k l, reify E.P 8 h (rectR.o k l) = some (rectR.o k l) := fun _ _ _ => Rec.o_reify
  have so : ∀ k l, settled depth (rectR.o k l) = true := fun _ _ => Rec.o_set
  have lz : ∀ h, lenT .sl h p.zv = some (.int .i64 p.zs.length) := fun h => Rec.tree_len
  have iz : ∀ (j : Nat) (hj : j < p.zs.length), indexAddrT (.sl 49 ⟨some true, some 3⟩) p.zv (.int .i64 (j : Int)) = some (cptr ((znR p.y).val p.zs[j])) := fun j hj => Rec.index_tree rfl hj
  have hSh := fun hp (hc : a.length ≤ 200) => shares_spec p hp (some false) a Rec.ok_some (by omega)
  have hOf := fun hp (hc : a.length ≤ 200) => zof_spec p hp (some false) a Rec.ok_some hc
  rw [L_fn F4 rfl]
  unfold Pl.val Pl.cells at *
  generalize p.zv = ZV at *
  cases ha : fewB p.zs a.length
  · rw [ha] at fa
    simp -implicitDefEqProofs [r4, p4, ret0 m8, sm, ret0 m9, rp, ro, fa, plO]
  rw [ha] at fa
  obtain ⟨hp, ha24⟩ := fewB_ok ha
  have qa := rright2_spec (some false) a Rec.ok_some (by omega)
  have hSh := hSh hp (by omega)
  have hOf := hOf hp (by omega)
  cases ra : regB a
  · rw [ra] at qa
    simp -implicitDefEqProofs [r4, p4, ret0 m8, sm, ret0 m9, rp, ro, fa, ret0 m20, qa, plO]
  rw [ra] at qa
  have eS : sharesV p.zs a = lst false ((sharesL p.zs a).map (.int .i64)) := by unfold sharesV; rw [ra, if_pos rfl]
  rw [eS] at hSh
  have hwl := wZ_leng (zs := p.zs) ra
  have lA : ∀ h, lenT .sl h (lst false ((sharesL p.zs a).map (.int .i64))) = some (.int .i64 p.zs.length) := fun h => by rw [iL_len, sharesL_len]
  have iA : ∀ (i : Nat) (h : i < (wZ p.zs a).length), indexAddrT (.sl 3 ⟨some false, some 1⟩) (lst false ((sharesL p.zs a).map (.int .i64))) (.int .i64 (i : Int)) = some (cptr (.int .i64 ((wZ p.zs a)[i]).2)) := fun i h => by
    rw [← eS]; exact sharesV_index h
  have iW : ∀ (j : Nat) (hj : j < (wZ p.zs a).length), indexAddrT (.sl 49 ⟨some true, some 3⟩) ZV (.int .i64 (j : Int)) = some (cptr ((znR p.y).val ((wZ p.zs a)[j]).1)) := fun j hj => by
    obtain ⟨h, e⟩ := wZ_zone hj
    rw [e]
    exact iz j h
  have lN := fun h => sT_len (h := h) (x := false) (l := namesZ p.zs a)
  have iN := fun (i : Nat) (hi : i < (namesZ p.zs a).length) => sT_index (x := false) hi
  have eN : lst false ((namesZ p.zs a).map .string) = sT false (namesZ p.zs a) := rfl
  rw [eN] at hOf
  have bN : ∀ d n, below (d + 1) n (sT false (namesZ p.zs a)) = true := fun _ _ => rfl
  have hNl : (namesZ p.zs a).length ≤ (wZ p.zs a).length := Rg.namesF_len _ _ _
  have hNd : namesZ p.zs a = namesF (bestW 0 none (wZ p.zs a)) 0 (wZ p.zs a) := rfl
  have hch := fun (i : Nat) (hi : i < (wZ p.zs a).length) => Rg.chosen_eq hi
  generalize lst false ((sharesL p.zs a).map (.int .i64)) = LV at *
  generalize namesZ p.zs a = N at *
  generalize sT false N = NV at *
  generalize wZ p.zs a = W at *
  have hl6 := hp.len
  simp -implicitDefEqProofs [r4, p4, ret0 m8, sm, ret0 m9, rp, ro, fa, ret0 m20, qa, ret1 m15, so, sp, hSh, ret1 m18, hOf, lz, lA]
  clear hSh hOf qa fa ha eS eN sm rp
  generalize bestW 0 none W = o at *
  rw [LL_for (γ := Nat) W 0 (fun i c => [(8, .int .i64 (c : Int)), (9, .int .i64 i)]) (fun i _ => [plO p ZV])
    (fun i rest c => (.exit 0, [(8, .int .i64 (((c + (namesF o i rest).length : Nat)) : Int)), (9, undef)], [plO p ZV])) (fun i c => c ≤ i ∧ N.drop c = namesF o i (W.drop i)) (by omega) ⟨Nat.le_refl _, by rw [List.drop_zero, List.drop_zero]; exact hNd⟩]
  · rw [Nat.zero_add, ← hNd]
    simp -implicitDefEqProofs [k4_10, lN, plO]
  · simp -implicitDefEqProofs [k4_10]
  · rfl
  · intro nx i c hi _
    have e1 : ∀ i, (namesF o i []).length = 0 := fun _ => rfl
    rw [hwl] at hi
    simp -implicitDefEqProofs [r4_10, k4_10, hi, lA, e1, trim_le, plO]
  · intro nx i v rest c hi hv hd hw hc ih
    obtain ⟨z, n⟩ := v
    obtain ⟨hci, hcd⟩ := hc
    rw [hd, Rg.namesF_step] at hcd
    have hiz : i < p.zs.length := by omega
    have hi' : (i : Int) < (p.zs.length : Int) := by omega
    have x1 := iA i hi
    have z1 := iW i hi
    have ch := hch i hi
    rw [hv] at x1 z1 ch
    rw [zn_val] at z1
    simp only at x1 z1 ch
    rw [Rg.namesF_step]
    rw [ch] at hcd ⊢
    have wc : IntKind.i64.wrap ((c : Int) + 1) = ((c + 1 : Nat) : Int) := (wrap64 (by omega) (by omega)).trans (by omega)
    have hd1 : W.drop (i + 1) = rest := by
      have := congrArg (List.drop 1) hd
      rw [List.drop_drop] at this
      exact this
    have hcN : c ≤ N.length ∨ N.length < c := by omega
    have keep : inL W z n i = false → _ := fun hf => ih c ⟨by omega, by rw [hcd, hf, hd1]; rfl⟩
    have take : inL W z n i = true → _ := fun hf => ih (c + 1) ⟨by omega, by
      rw [hf] at hcd
      have := congrArg (List.drop 1) hcd
      rw [List.drop_drop] at this
      rw [hd1]; exact this⟩
    have here : inL W z n i = true → ∃ h : c < N.length, N[c] = z.nm := fun hf => by
      rw [hf] at hcd
      have h1 : (N.drop c)[0]? = some z.nm := by rw [hcd]; rfl
      rw [List.getElem?_drop, Nat.add_zero] at h1
      obtain ⟨h, e⟩ := List.getElem?_eq_some_iff.1 h1
      exact ⟨h, e⟩
    have hin : inL W z n i = (decide (0 < n) && (z.ov || noBet n i 0 W)) := rfl
    clear ch hch hcd hd1
    simp -implicitDefEqProofs [k4_10, plO, -Int.natCast_add] at keep take
    cases hov : z.ov
    case' true =>
      rw [hov] at z1
      simp -implicitDefEqProofs [r4_10, k4_10, hi', lA, x1, plO, -Int.natCast_add]
      rw [LL_for (γ := Unit) ([] : List Nat) () (fun k _ => [(11, .int .i64 (k : Int))]) (fun _ _ => [plO p ZV]) (fun _ _ _ => (.exit 2, [(11, undef)], [plO p ZV])) (fun _ _ => True) (by simp) trivial]
      rotate_left
      · simp -implicitDefEqProofs [k4_14]
      · rfl
      · intro nx2 k _ hk _
        have hk0 : k = 0 := hk
        by_cases h0 : 0 < p.zs.length
        · have h0' : (0 : Int) < (p.zs.length : Int) := by omega
          simp -implicitDefEqProofs [r4_14, k4_14, hk0, h0, lA, z1, plO, trim_le]
        · omega
      · intro nx2 k _ _ _ hk
        exact absurd hk (Nat.not_lt_zero _)
      have hin : inL W z n i = decide (0 < n) := by rw [hin, hov, Bool.true_or, Bool.and_true]
      rw [← hin]
    case' false =>
      rw [hov] at z1
      simp -implicitDefEqProofs [r4_10, k4_10, hi', lA, x1, plO, -Int.natCast_add]
      rw [LL_for (γ := Bool) W (decide (0 < n)) (fun k q => [(10, .bool q), (11, .int .i64 (k : Int))]) (fun _ _ => [plO p ZV]) (fun k rest q => (.exit 2, [(10, .bool (q && noBet n i k rest)), (11, undef)], [plO p ZV])) (fun _ _ => True) (by omega) trivial]
      rotate_left
      · simp -implicitDefEqProofs [k4_14]
      · rfl
      · intro nx2 k q hk _
        rw [hwl] at hk
        have e1 : ∀ k, noBet n i k [] = true := fun _ => rfl
        simp -implicitDefEqProofs [r4_14, k4_14, hk, lA, plO, e1, trim_le]
      · intro nx2 k v2 rest2 q hk hv2 hd2 hw2 _ ih2
        obtain ⟨z2, m⟩ := v2
        have hkz : k < p.zs.length := by omega
        have hkz' : (k : Int) < (p.zs.length : Int) := by omega
        have x2 := iA k hk
        have z2' := iW k hk
        rw [hv2] at x2 z2'
        rw [zn_val] at z2'
        simp only at x2 z2'
        rw [noBet_cons, ← Bool.and_assoc]
        have ihq := ih2 q trivial
        have ihf := ih2 false trivial
        simp -implicitDefEqProofs [k4_14, plO] at ihq ihf
        cases ho2 : z2.ov
        · rw [ho2] at z2'
          by_cases g1 : n < m
          · rw [decide_eq_true g1, Bool.true_or, Bool.false_or, Bool.not_true, Bool.and_false, Bool.false_and]
            simp -implicitDefEqProofs [r4_14, k4_14, hkz', lA, x1, x2, z1, z2', g1, plO, hw2, trim_le]
            exact ihf
          · by_cases g2 : m = n
            · by_cases g3 : k < i
              · have g3' : (k : Int) < (i : Int) := by omega
                rw [decide_eq_false g1, decide_eq_true g2, decide_eq_true g3, Bool.false_or, Bool.true_and, Bool.false_or, Bool.not_true, Bool.and_false, Bool.false_and]
                simp -implicitDefEqProofs [r4_14, k4_14, hkz', lA, x1, x2, z1, z2', g2, g3', plO, hw2, trim_le]
                exact ihf
              · have g3' : ¬ (k : Int) < (i : Int) := by omega
                rw [decide_eq_false g1, decide_eq_true g2, decide_eq_false g3, Bool.false_or, Bool.true_and, Bool.false_or, Bool.not_false, Bool.and_true]
                simp -implicitDefEqProofs [r4_14, k4_14, hkz', lA, x1, x2, z1, z2', g2, g3', plO, hw2, trim_le]
                exact ihq
            · rw [decide_eq_false g1, decide_eq_false g2, Bool.false_or, Bool.false_and, Bool.false_or, Bool.not_false, Bool.and_true]
              simp -implicitDefEqProofs [r4_14, k4_14, hkz', lA, x1, x2, z1, z2', g1, g2, plO, hw2, trim_le]
              exact ihq
        · rw [ho2] at z2'
          rw [Bool.true_or, Bool.and_true]
          simp -implicitDefEqProofs [r4_14, k4_14, hkz', lA, z1, z2', plO, hw2, trim_le]
          exact ihq
      have hin : inL W z n i = (decide (0 < n) && noBet n i 0 W) := by rw [hin, hov, Bool.false_or]
      rw [← hin]
    all_goals
      cases hI : inL W z n i
      · have keep := keep hI
        simp -implicitDefEqProofs [k4_14, plO, hw, trim_le, -Int.natCast_add]
        exact keep
      · have take := take hI
        obtain ⟨h1, h2⟩ := here hI
        have h1' : ¬ ((N.length : Int) ≤ (c : Int)) := by omega
        have h1'' : ¬ (N.length ≤ c) := by omega
        have n1 := iN c h1
        rw [h2] at n1
        simp only [Nat.add_assoc] at take
        simp -implicitDefEqProofs [k4_14, lN, z1, n1, h1', wc, plO, hw, trim_le, -Int.natCast_add]
        exact take
end Go.Proofs.Ytimjfondgdhfcaa.Bm
