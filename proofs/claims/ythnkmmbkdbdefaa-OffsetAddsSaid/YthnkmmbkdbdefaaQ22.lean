/-
  Regions grown and shrunk, plain. Conditions: none. No program in sight.
-/
import Derived.Test.YthnkmmbkdbdefaaQ21
import Derived.Test.YthnkmmbkdbdefaaQ20
namespace Go.Proofs.Ythnkmmbkdbdefaa.Bm
open Go Go.RowKit
open Rg (Rect Slab runs runsF outT emit stripL mergeC colC edgesX ends swp cell)

/-! ### Plain -/
def refC (f : Bool → Bool → Bool) (a b : List Rect) (x : Int) : List (Int × Int) := mergeC f (colC a x) (colC b x)
def refL (f : Bool → Bool → Bool) (a b : List Rect) : List Rect := outT (runsF (stripL (refC f a b) (edgesX (a ++ b))))
theorem refC_ok (f : Bool → Bool → Bool) (hf : f false false = false) {a b : List Rect} (ha : ∀ r ∈ a, r.y0 < r.y1) (hb : ∀ r ∈ b, r.y0 < r.y1) (x : Int) : Rg.Can (refC f a b x) ∧ ∀ y, Rg.hasS (refC f a b x) y = f (cell a x y) (cell b x y) := by
  obtain ⟨h1, h2⟩ := Rg.mergeC_ok f hf (Rg.colC_ok ha x).1 (Rg.colC_ok hb x).1
  refine ⟨h1, fun y => ?_⟩
  rw [show Rg.hasS (refC f a b x) y = _ from h2 y, (Rg.colC_ok ha x).2, (Rg.colC_ok hb x).2]
theorem refL_ok (f : Bool → Bool → Bool) (hf : f false false = false) {a b : List Rect} (ha : ∀ r ∈ a, r.y0 < r.y1) (hb : ∀ r ∈ b, r.y0 < r.y1) : Rg.Form (refL f a b) ∧ ∀ x y, cell (refL f a b) x y = f (cell a x y) (cell b x y) := by
  have h1 : Rg.Steps (a ++ b) (cell a) := (Rg.cell_steps a).mono fun r hr => List.mem_append_left _ hr
  have h2 : Rg.Steps (a ++ b) (cell b) := (Rg.cell_steps b).mono fun r hr => List.mem_append_right _ hr
  exact Rg.strips_form (h1.op h2 f hf) (Rg.sortU_asc _) (Rg.edgesX_all _) (refC f a b) (fun x => (refC_ok f hf ha hb x).1) fun x _ y => (refC_ok f hf ha hb x).2 y
theorem next_run {x0 x1 : Int} {w : List (Int × Int)} {s : Slab} {T : List Slab} (h : s.col = [] ∨ s.col ≠ w) : outT (runs ⟨x0, x1, w⟩ (s :: T)) = emit ⟨x0, x1, w⟩ ++ outT (runs s T) := by
  by_cases e : s.col = w
  · have h0 : s.col = [] := h.resolve_right fun h => h e
    have hw : w = [] := by rw [← e, h0]
    subst hw
    rw [Rg.runs_none (s := ⟨x0, x1, []⟩) rfl, Rg.emit_nil (s := ⟨x0, x1, []⟩) rfl]; rfl
  · exact Rg.runs_stop (s := ⟨x0, x1, w⟩) e
theorem stripL_get (c : Int → List (Int × Int)) : ∀ (xs : List Int) (i : Nat) (h : i + 1 < xs.length), ∃ hs : i < (stripL c xs).length, (stripL c xs)[i] = ⟨xs[i], xs[i + 1], c xs[i]⟩
  | [], i, h => by simp at h
  | [_], i, h => by simp at h
  | a :: b :: xs, 0, _ => ⟨Nat.succ_pos _, rfl⟩
  | a :: b :: xs, i + 1, h => by
    obtain ⟨hs, e⟩ := stripL_get c (b :: xs) i (by simpa using h)
    exact ⟨Nat.succ_lt_succ hs, e⟩
theorem emit_len (s : Slab) : (emit s).length = s.col.length := List.length_map _
theorem emit_app (x0 x1 : Int) (c d : List (Int × Int)) : emit ⟨x0, x1, c ++ d⟩ = emit ⟨x0, x1, c⟩ ++ emit ⟨x0, x1, d⟩ := List.map_append
theorem ends_even : ∀ {c : List (Int × Int)} {j : Nat} (hj : j < c.length), (ends c)[2 * j]? = some c[j].1 ∧ (ends c)[2 * j + 1]? = some c[j].2
  | [], j, hj => by simp at hj
  | s :: c, 0, _ => ⟨rfl, rfl⟩
  | s :: c, j + 1, hj => ends_even (c := c) (j := j) (by simpa using hj)
theorem ends_at {c : List (Int × Int)} {j : Nat} (hj : j < c.length) : ∃ (h1 : 2 * j < (ends c).length) (h2 : 2 * j + 1 < (ends c).length), (ends c)[2 * j] = c[j].1 ∧ (ends c)[2 * j + 1] = c[j].2 := by
  have hl := Rg.ends_len c
  obtain ⟨e1, e2⟩ := ends_even hj
  refine ⟨by omega, by omega, ?_, ?_⟩
  · rw [List.getElem?_eq_getElem (by omega)] at e1; exact Option.some.inj e1
  · rw [List.getElem?_eq_getElem (by omega)] at e2; exact Option.some.inj e2

theorem out_get {P : List Rect} {x0 x1 x2 : Int} {c : List (Int × Int)} {j : Nat} (hj : j < c.length) :
    (P ++ (emit ⟨x0, x2, c.take j⟩ ++ emit ⟨x0, x1, c.drop j⟩))[P.length + j]? = some ⟨x0, c[j].1, x1, c[j].2⟩ := by
  rw [List.getElem?_append_right (by omega), Nat.add_sub_cancel_left, List.getElem?_append_right (by rw [emit_len]; simp; omega)]
  have e : (emit ⟨x0, x2, c.take j⟩).length = j := by rw [emit_len]; simp; omega
  rw [e, Nat.sub_self, List.drop_eq_getElem_cons hj]; rfl
theorem out_set {P : List Rect} {x0 x1 x2 : Int} {c : List (Int × Int)} {j : Nat} (hj : j < c.length) :
    (P ++ (emit ⟨x0, x2, c.take j⟩ ++ emit ⟨x0, x1, c.drop j⟩)).set (P.length + j) ⟨x0, c[j].1, x2, c[j].2⟩ = P ++ (emit ⟨x0, x2, c.take (j + 1)⟩ ++ emit ⟨x0, x1, c.drop (j + 1)⟩) := by
  have e : (emit ⟨x0, x2, c.take j⟩).length = j := by rw [emit_len]; simp; omega
  rw [List.set_append_right _ _ (by omega), Nat.add_sub_cancel_left, List.set_append_right _ _ (by omega), e, Nat.sub_self, List.drop_eq_getElem_cons hj, List.take_succ_eq_append_getElem hj, emit_app, List.append_assoc]
  rfl
theorem out_len {P : List Rect} {x0 x1 x2 : Int} {c : List (Int × Int)} {j : Nat} : (P ++ (emit ⟨x0, x2, c.take j⟩ ++ emit ⟨x0, x1, c.drop j⟩)).length = P.length + c.length := by
  rw [List.length_append, List.length_append, emit_len, emit_len, ← List.length_append]
  simp only [List.take_append_drop]
theorem rect_sl {b : Nat} {c d : List Rect} (h : c.length = d.length) : rectR.sl b c = rectR.sl b d := by unfold Rec.sl; rw [h]

/-- What is written so far. -/
structure FS where
  i : Nat
  P : List Rect
  x0 : Int
  w : List (Int × Int)
def FS.out (s : FS) (xs : List Int) : List Rect := if s.i = 0 then [] else s.P ++ emit ⟨s.x0, xs.getD s.i 0, s.w⟩
def FS.was (s : FS) : Value := if s.i = 0 then .slice none 0 0 else iT (ends s.w)
def bnd (i : Nat) : Nat := (i + 1) * 5000
theorem bnd_succ (i : Nat) : bnd (i + 1) = bnd i + 5000 := by unfold bnd; omega
theorem bnd_le {i : Nat} (h : i ≤ 2000) : bnd i ≤ 100000000 := by unfold bnd; omega
def FS.ok (s : FS) (xs : List Int) (S : List Slab) (F : List Rect) : Prop := s.i ≤ S.length ∧ (s.i = 0 → s.P = []) ∧ (s.i ≠ 0 → s.P ++ outT (runs ⟨s.x0, xs.getD s.i 0, s.w⟩ (S.drop s.i)) = F) ∧ s.P.length + s.w.length ≤ bnd s.i ∧ s.w.length ≤ 5000
theorem swp_len (f : Bool → Bool → Bool) : ∀ (A B : List Int) (p q w : Bool), (swp f A B p q w).length ≤ A.length + B.length
  | [], [], _, _, _ => by simp [swp]
  | a :: A, [], p, q, w => by
    have := swp_len f A [] (!p) q (f (!p) q)
    rw [swp, List.length_append]
    split <;> simp at * <;> omega
  | [], b :: B, p, q, w => by
    have := swp_len f [] B p (!q) (f p (!q))
    rw [swp, List.length_append]
    split <;> simp at * <;> omega
  | a :: A, b :: B, p, q, w => by
    have h1 := swp_len f A (b :: B) (!p) q (f (!p) q)
    have h2 := swp_len f (a :: A) B p (!q) (f p (!q))
    have h3 := swp_len f A B (!p) (!q) (f (!p) (!q))
    rw [swp]
    split
    · rw [List.length_append]; split <;> simp at * <;> omega
    · split
      · rw [List.length_append]; split <;> simp at * <;> omega
      · rw [List.length_append]; split <;> simp at * <;> omega
termination_by A B => A.length + B.length

set_option maxHeartbeats 4000000 in
theorem form_L (k m : Option Bool) (a b : List Rect) (z : Int) (f : Bool → Bool → Bool) (hz : (z = 0 ∧ f = orF) ∨ (z = 1 ∧ f = andF) ∨ (z = 2 ∧ f = subF)) (hk : Rec.Ok k a) (hm : Rec.Ok m b) (ha : a.length ≤ 500) (hb : b.length ≤ 500) (hya : ∀ r ∈ a, r.y0 < r.y1) (hyb : ∀ r ∈ b, r.y0 < r.y1)
    (h : Heap) (lo : Nat) (hlo0 : lo ≤ h.length) :
    L E 24 [rectR.o k a, rectR.o m b, .int .i64 z] h lo = some (rectR.sl h.length (refL f a b), h ++ [rectR.row 39 (refL f a b)]) := by
  have hl1 : ∀ x : AObj, (h ++ [x]).length = h.length + 1 := fun x => by simp
  have hf : f false false = false := by rcases hz with ⟨_, rfl⟩ | ⟨_, rfl⟩ | ⟨_, rfl⟩ <;> rfl
  have ed := edges_spec k m a b hk hm (by omega) (by omega)
  have col : ∀ x, ∃ ca cb, pureCall E.P (L E) 44 [rectR.o k a, .int .i64 x] = some (iT ca) ∧ pureCall E.P (L E) 44 [rectR.o m b, .int .i64 x] = some (iT cb) ∧ pureCall E.P (L E) 43 [iT ca, iT cb, .int .i64 z] = some (iT (ends (refC f a b x))) ∧ (refC f a b x).length ≤ 2000 := fun x => by
    have c1 := rcolumn_spec k a x hk (by omega)
    have c2 := rcolumn_spec m b x hm (by omega)
    rw [ref_col hya] at c1
    rw [ref_col hyb] at c2
    have l1 := Rg.colC_len a x
    have l2 := Rg.colC_len b x
    have l3 := Rg.ends_len (colC a x)
    have l4 := Rg.ends_len (colC b x)
    have c3 := rcombine_spec (ends (colC a x)) (ends (colC b x)) z f hz (by omega) (by omega)
    obtain ⟨q1, q2⟩ := Rg.mergeC_ok f hf (Rg.colC_ok hya x).1 (Rg.colC_ok hyb x).1
    have e := Rg.swp_col f hf (Rg.colC_ok hya x).1 (Rg.colC_ok hyb x).1 q1 q2
    have ll := swp_len f (ends (colC a x)) (ends (colC b x)) false false false
    rw [e] at c3 ll
    rw [Rg.ends_len] at ll
    exact ⟨_, _, c1, c2, c3, by show (mergeC f (colC a x) (colC b x)).length ≤ 2000; omega⟩
  have hxs : (edgesX (a ++ b)).length ≤ 2000 := by
    have := Rg.edgesX_len (a ++ b)
    rw [List.length_append] at this; omega
  have so : ∀ k l, settled depth (rectR.o k l) = true := fun k l => Rec.o_set
  have so2 : ∀ l, settled depth (iT l) = true := fun _ => rfl
  have so3 : ∀ z, settled depth (.int .i64 z) = true := fun _ => rfl
  rw [L_fn F24 rfl]
  simp -implicitDefEqProofs [r24, p24, prep_new, newK_nil s32, ret1 m42, so, ed]
  unfold refL
  generalize hxe : edgesX (a ++ b) = xs at hxs ⊢
  have hSl := Rg.stripL_len (refC f a b) xs
  have hSg := stripL_get (refC f a b) xs
  generalize hSe : stripL (refC f a b) xs = S at hSl hSg ⊢
  generalize hFe : outT (runsF S) = F
  rw [LL_rec (α := FS) ⟨0, [], 0, []⟩ (fun s => [(7, rectR.sl h.length (s.out xs)), (9, s.was), (10, .int .i64 (s.P.length : Int)), (11, .int .i64 (s.i : Int))]) (fun s => (h ++ [rectR.row 39 (s.out xs)]))
    (fun _ => (.exit 0, [(7, rectR.sl h.length F), (9, undef), (10, undef), (11, undef)], (h ++ [rectR.row 39 F]))) (fun s => s.ok xs S F) (fun s => S.length - s.i)]
  · simp -implicitDefEqProofs [k24_6]
  · exact ⟨Nat.zero_le _, fun _ => rfl, fun h => absurd rfl h, Nat.zero_le _, Nat.zero_le _⟩
  · simp -implicitDefEqProofs [k24_6, FS.out, FS.was, Rec.sl_nil]
  · rfl
  · intro nx s hI ih
    obtain ⟨i, P, x0, w⟩ := s
    obtain ⟨h1, h2, h3, h4, h5⟩ := hI
    simp only at h1 h2 h3 h4 h5
    have hS2 : S.length ≤ 2000 := by omega
    have hgx : ∀ j (hj : j < xs.length), xs.getD j 0 = xs[j] := fun j hj => by rw [List.getD_eq_getElem?_getD, List.getElem?_eq_getElem hj]; rfl
    by_cases hi : i + 1 < xs.length
    · obtain ⟨hs, eS⟩ := hSg i hi
      have hdS : S.drop i = ⟨xs[i], xs[i + 1], refC f a b xs[i]⟩ :: S.drop (i + 1) := by rw [List.drop_eq_getElem_cons hs, eS]
      obtain ⟨ca, cb, q1, q2, q3, q4⟩ := col xs[i]
      generalize refC f a b xs[i] = c at q3 q4 hdS
      have w1 : IntKind.i64.wrap ((i : Int) + 1) = ((i + 1 : Nat) : Int) := wrap64 (by omega) (by omega)
      have hii : ((i + 1 : Nat) : Int) < (xs.length : Int) := by omega
      have ix0 := iT_index (l := xs) (i := i) (by omega)
      have ix1 := iT_index (l := xs) (i := i + 1) hi
      have hel := Rg.ends_len c
      have gx0 := hgx i (by omega)
      have gx1 := hgx (i + 1) hi
      by_cases hmg : i ≠ 0 ∧ c ≠ [] ∧ c = w
      · obtain ⟨hi0, hc0, hcw⟩ := hmg
        subst hcw
        have h3 := h3 hi0
        rw [hdS, Rg.runs_step (s := ⟨x0, xs.getD i 0, c⟩) (u := ⟨xs[i], xs[i + 1], c⟩) rfl] at h3
        have h4' : P.length + c.length ≤ bnd (i + 1) := by rw [bnd_succ]; omega
        have ih := ih ⟨i + 1, P, x0, c⟩ (by show S.length - (i + 1) < S.length - i; omega) ⟨by show i + 1 ≤ S.length; omega, fun h => absurd h (Nat.succ_ne_zero i), fun _ => by show P ++ outT (runs ⟨x0, xs.getD (i + 1) 0, c⟩ (S.drop (i + 1))) = F; rw [gx1]; exact h3, h4', h5⟩
        have eo : FS.out ⟨i, P, x0, c⟩ xs = P ++ emit ⟨x0, xs[i], c⟩ := by unfold FS.out; rw [if_neg hi0, gx0]
        have eo1 : FS.out ⟨i + 1, P, x0, c⟩ xs = P ++ emit ⟨x0, xs[i + 1], c⟩ := by unfold FS.out; rw [if_neg (Nat.succ_ne_zero i), gx1]
        have ew : FS.was ⟨i, P, x0, c⟩ = iT (ends c) := if_neg hi0
        have ew1 : FS.was ⟨i + 1, P, x0, c⟩ = iT (ends c) := if_neg (Nat.succ_ne_zero i)
        simp only [eo1, ew1] at ih
        simp only [eo, ew]
        have hipos : (0 : Int) < (i : Int) := by omega
        have hiposN : 0 < i := by omega
        have hcpos : 0 < c.length := List.length_pos_iff.2 hc0
        have hepos : 0 < (ends c).length := by omega
        have hepos' : (0 : Int) < ((ends c).length : Int) := by omega
        have ci := ints_spec (ends c) (ends c) (by omega)
        rw [decide_eq_true rfl] at ci
        have hlo : (P ++ emit ⟨x0, xs[i], c⟩).length = P.length + c.length := by rw [List.length_append, emit_len]
        simp -implicitDefEqProofs [k24_6] at ih
        simp -implicitDefEqProofs [r24_6, k24_6, iT_len, w1, hii, hi, ix0, ret1 m44, ret1 m43, so, so2, so3, q1, q2, q3, hipos, hiposN, hepos, hepos', ret0 m45, iT_reify, ci, -Int.natCast_add]
        rw [LL_rec (α := Nat) 0 (fun j => [(13, .int .i64 ((P.length + j : Nat) : Int))]) (fun j => (h ++ [rectR.row 39 (P ++ (emit ⟨x0, xs[i + 1], c.take j⟩ ++ emit ⟨x0, xs[i], c.drop j⟩))]))
          (fun _ => (.exit 2, [(13, undef)], (h ++ [rectR.row 39 (P ++ emit ⟨x0, xs[i + 1], c⟩)]))) (fun j => j ≤ c.length) (fun j => c.length - j)]
        · have esl : rectR.sl h.length (P ++ emit ⟨x0, xs[i + 1], c⟩) = rectR.sl h.length (P ++ emit ⟨x0, xs[i], c⟩) := rect_sl (by rw [List.length_append, List.length_append, emit_len, emit_len])
          rw [esl] at ih
          simp -implicitDefEqProofs [k24_11, w1, trim_le, -Int.natCast_add]
          exact ih
        · exact Nat.zero_le _
        · simp -implicitDefEqProofs [k24_11]
        · rfl
        · intro nx j hj ih
          by_cases hjc : j < c.length
          · have ih := ih (j + 1) (by omega) (by omega)
            have hgt : P.length + j < (P ++ (emit ⟨x0, xs[i + 1], c.take j⟩ ++ emit ⟨x0, xs[i], c.drop j⟩)).length := by rw [out_len]; omega
            have eg : (P ++ (emit ⟨x0, xs[i + 1], c.take j⟩ ++ emit ⟨x0, xs[i], c.drop j⟩))[P.length + j] = ⟨x0, c[j].1, xs[i], c[j].2⟩ := by
              have := out_get (P := P) (x0 := x0) (x1 := xs[i]) (x2 := xs[i + 1]) hjc
              rw [List.getElem?_eq_getElem hgt] at this
              exact Option.some.inj this
            have es := out_set (P := P) (x0 := x0) (x1 := xs[i]) (x2 := xs[i + 1]) hjc
            have esl : rectR.sl h.length (P ++ emit ⟨x0, xs[i], c⟩) = rectR.sl h.length (P ++ (emit ⟨x0, xs[i + 1], c.take j⟩ ++ emit ⟨x0, xs[i], c.drop j⟩)) := rect_sl (by rw [out_len, hlo])
            have w2 : IntKind.i64.wrap (((P.length + j : Nat) : Int) + 1) = ((P.length + (j + 1) : Nat) : Int) := by
              have := bnd_le (i := i) (by omega)
              exact (wrap64 (by omega) (by omega)).trans (by omega)
            have hlt : ((P.length + j : Nat) : Int) < ((P.length + c.length : Nat) : Int) := by omega
            have hltN : P.length + j < P.length + c.length := by omega
            have ixr := Rec.index_row (R := rectR) (h0 := 4) (t := 39) (g := some true) (b := h.length) (l := P ++ (emit ⟨x0, xs[i + 1], c.take j⟩ ++ emit ⟨x0, xs[i], c.drop j⟩)) (i := P.length + j) (k := .i64) rfl hgt
            rw [← esl] at ixr
            have fdr := Rec.field_row (R := rectR) (b := h.length) (n := 0) (f := 2) (l := P ++ (emit ⟨x0, xs[i + 1], c.take j⟩ ++ emit ⟨x0, xs[i], c.drop j⟩)) (i := P.length + j) (k := ⟨some true, some 4⟩) (g := some false)
            have str := Rec.store_cell (R := rectR) (h := (h ++ [rectR.row 39 (P ++ (emit ⟨x0, xs[i + 1], c.take j⟩ ++ emit ⟨x0, xs[i], c.drop j⟩))])) (b := h.length) (j := 2) (lo := lo) (t := 39) (l := P ++ (emit ⟨x0, xs[i + 1], c.take j⟩ ++ emit ⟨x0, xs[i], c.drop j⟩)) (i := P.length + j) (v := .int .i64 xs[i + 1]) (a := ⟨x0, c[j].1, xs[i + 1], c[j].2⟩) rfl end0 hlo0 hgt (by decide) (by rw [eg]; rfl)
            rw [es] at str
            generalize P ++ (emit ⟨x0, xs[i + 1], c.take j⟩ ++ emit ⟨x0, xs[i], c.drop j⟩) = oj at *
            generalize P ++ (emit ⟨x0, xs[i + 1], c.take (j + 1)⟩ ++ emit ⟨x0, xs[i], c.drop (j + 1)⟩) = oj1 at *
            generalize hQ : ((P.length + j : Nat) : Int) = Q at *
            generalize hQ1 : ((P.length + (j + 1) : Nat) : Int) = Q1 at *
            simp -implicitDefEqProofs [k24_11] at ih
            simp -implicitDefEqProofs [r24_11, k24_11, Rec.sl_len, hlo, hlt, hltN, w1, w2, ix1, ixr, fdr, str, set0, hl1, trim_le, -Int.natCast_add, -List.length_append]
            exact ih
          · have e1 : c.take j = c := List.take_of_length_le (by omega)
            have e2 : c.drop j = [] := List.drop_of_length_le (by omega)
            have e3 : emit ⟨x0, xs[i], []⟩ = [] := rfl
            have hlt : ¬ (((P.length + j : Nat) : Int) < ((P.length + c.length : Nat) : Int)) := by omega
            have hltN : ¬ (P.length + j < P.length + c.length) := by omega
            rw [e1, e2, e3, List.append_nil]
            simp -implicitDefEqProofs [r24_11, k24_11, Rec.sl_len, hlo, hlt, hltN, hl1, trim_le, -Int.natCast_add, -List.length_append]
      · have hnx : c = [] ∨ (i ≠ 0 → c ≠ w) := by
          by_cases h0 : c = []
          · exact .inl h0
          · exact .inr fun hi0 he => hmg ⟨hi0, h0, he⟩
        obtain ⟨o, ho⟩ : ∃ o, o = FS.out ⟨i, P, x0, w⟩ xs := ⟨_, rfl⟩
        have hol : o.length ≤ bnd i := by
          rw [ho]; unfold FS.out
          split
          · exact Nat.zero_le _
          · rw [List.length_append, emit_len]; exact h4
        have hbi := bnd_le (i := i) (by omega)
        have h4' : o.length + c.length ≤ bnd (i + 1) := by rw [bnd_succ]; omega
        have hnew : o ++ outT (runs ⟨xs[i], xs[i + 1], c⟩ (S.drop (i + 1))) = F := by
          rw [ho]; unfold FS.out
          by_cases hi0 : i = 0
          · rw [if_pos hi0, List.nil_append, ← hFe]
            subst hi0
            rw [List.drop_zero] at hdS
            rw [hdS]; rfl
          · rw [if_neg hi0]
            have h3 := h3 hi0
            rw [hdS, next_run (s := ⟨xs[i], xs[i + 1], c⟩) (by rcases hnx with h | h; exact .inl h; exact .inr (h hi0)), ← List.append_assoc] at h3
            exact h3
        have ih := ih ⟨i + 1, o, xs[i], c⟩ (by show S.length - (i + 1) < S.length - i; omega) ⟨by show i + 1 ≤ S.length; omega, fun h => absurd h (Nat.succ_ne_zero i), fun _ => by show o ++ outT (runs ⟨xs[i], xs.getD (i + 1) 0, c⟩ (S.drop (i + 1))) = F; rw [gx1]; exact hnew, h4', by show c.length ≤ 5000; omega⟩
        have eo1 : FS.out ⟨i + 1, o, xs[i], c⟩ xs = o ++ emit ⟨xs[i], xs[i + 1], c⟩ := by unfold FS.out; rw [if_neg (Nat.succ_ne_zero i), gx1]
        have ew1 : FS.was ⟨i + 1, o, xs[i], c⟩ = iT (ends c) := if_neg (Nat.succ_ne_zero i)
        simp only [eo1, ew1] at ih
        simp only [← ho]
        simp -implicitDefEqProofs [k24_6, -Int.natCast_add] at ih
        have three : i = 0 ∨ (i ≠ 0 ∧ c = []) ∨ (i ≠ 0 ∧ c ≠ [] ∧ c ≠ w) := by
          by_cases hi0 : i = 0
          · exact .inl hi0
          · by_cases hc0 : c = []
            · exact .inr (.inl ⟨hi0, hc0⟩)
            · exact .inr (.inr ⟨hi0, hc0, fun e => hmg ⟨hi0, hc0, e⟩⟩)
        have hG : (0 < i ∧ 0 < (ends c).length → FS.was ⟨i, P, x0, w⟩ = iT (ends w) ∧ decide (ends c = ends w) = false) := fun ⟨h, h'⟩ => by
          have hi0 : i ≠ 0 := by omega
          refine ⟨if_neg hi0, decide_eq_false fun e => ?_⟩
          have ecw : c = w := by rw [← Rg.pairs_ends c, e, Rg.pairs_ends]
          rcases hnx with h0 | h0
          · subst h0; simp [ends] at h'
          · exact h0 hi0 ecw
        have cw := ints_spec (ends c) (ends w) (by omega)
        generalize FS.was ⟨i, P, x0, w⟩ = wv at hG ⊢
        by_cases gi : 0 < i
        · by_cases gc : 0 < (ends c).length
          · obtain ⟨ew, ed⟩ := hG ⟨gi, gc⟩
            rw [ed] at cw
            subst ew
            simp -implicitDefEqProofs [r24_6, k24_6, iT_len, w1, hii, hi, ix0, ret1 m44, ret1 m43, so, so2, so3, q1, q2, q3, gi, gc, ret0 m45, iT_reify, cw, Rec.sl_len, -Int.natCast_add]
            have st17 := fun (o' : List Rect) (j : Nat) (hj : j < c.length) (ho : o'.length ≤ 200000000) => app_rect (h := (h ++ [rectR.row 39 o'])) (b := h.length) (lo := lo) (c := o') ⟨xs[i], c[j].1, xs[i + 1], c[j].2⟩ end0 hlo0 (by omega)
            rw [LL_for (γ := List Rect) c o (fun j o' => [(7, rectR.sl h.length o'), (14, .int .i64 ((2 * j : Nat) : Int))]) (fun _ o' => (h ++ [rectR.row 39 o']))
              (fun _ rest o' => (.exit 4, [(7, rectR.sl h.length (o' ++ emit ⟨xs[i], xs[i + 1], rest⟩)), (14, undef)], (h ++ [rectR.row 39 (o' ++ emit ⟨xs[i], xs[i + 1], rest⟩)]))) (fun j o' => o'.length = o.length + j) (by omega) rfl]
            · simp -implicitDefEqProofs [k24_17, w1, trim_le, -Int.natCast_add]
              exact ih
            · simp -implicitDefEqProofs [k24_17]
            · rfl
            · intro nx j o' hj _
              have e0 : emit ⟨xs[i], xs[i + 1], []⟩ = [] := rfl
              have w2 : IntKind.i64.wrap (((2 * j : Nat) : Int) + 1) = ((2 * j + 1 : Nat) : Int) := wrap64 (by omega) (by omega)
              have hjn : ¬ (((2 * j + 1 : Nat) : Int) < ((ends c).length : Int)) := by omega
              have hjn' : ¬ (2 * j + 1 < (ends c).length) := by omega
              simp -implicitDefEqProofs [r24_17, k24_17, iT_len, w2, hjn, hjn', e0, trim_le, -Int.natCast_add, -Int.natCast_mul]
            · intro nx j s rest o' hj hv hd hw ho ih
              obtain ⟨g1, g2, g3, g4⟩ := ends_at hj
              have st := st17 o' j hj (by omega)
              rw [hv] at g3 g4 st
              have w2 : IntKind.i64.wrap (((2 * j : Nat) : Int) + 1) = ((2 * j + 1 : Nat) : Int) := wrap64 (by omega) (by omega)
              have w3 : IntKind.i64.wrap (((2 * j : Nat) : Int) + 2) = ((2 * (j + 1) : Nat) : Int) := (wrap64 (by omega) (by omega)).trans (by omega)
              have hjn : ((2 * j + 1 : Nat) : Int) < ((ends c).length : Int) := by omega
              have ixa := iT_index (l := ends c) (i := 2 * j) g1
              have ixb := iT_index (l := ends c) (i := 2 * j + 1) g2
              rw [g3] at ixa
              rw [g4] at ixb
              have ih := ih (o' ++ [⟨xs[i], s.1, xs[i + 1], s.2⟩]) (by rw [List.length_append]; show o'.length + 1 = _; omega)
              rw [emit_cons, ← List.append_assoc]
              simp -implicitDefEqProofs [k24_17, -List.append_assoc, -Int.natCast_add, -Int.natCast_mul] at ih
              simp -implicitDefEqProofs [r24_17, k24_17, iT_len, w1, w2, w3, hjn, g2, ix0, ix1, ixa, ixb, b4_all, lit_rect, st, set0, hl1, trim_le, -List.append_assoc, -Int.natCast_add, -Int.natCast_mul]
              exact ih
          · simp -implicitDefEqProofs [r24_6, k24_6, iT_len, w1, hii, hi, ix0, ret1 m44, ret1 m43, so, so2, so3, q1, q2, q3, gi, gc, Rec.sl_len, -Int.natCast_add]
            have st17 := fun (o' : List Rect) (j : Nat) (hj : j < c.length) (ho : o'.length ≤ 200000000) => app_rect (h := (h ++ [rectR.row 39 o'])) (b := h.length) (lo := lo) (c := o') ⟨xs[i], c[j].1, xs[i + 1], c[j].2⟩ end0 hlo0 (by omega)
            rw [LL_for (γ := List Rect) c o (fun j o' => [(7, rectR.sl h.length o'), (14, .int .i64 ((2 * j : Nat) : Int))]) (fun _ o' => (h ++ [rectR.row 39 o']))
              (fun _ rest o' => (.exit 4, [(7, rectR.sl h.length (o' ++ emit ⟨xs[i], xs[i + 1], rest⟩)), (14, undef)], (h ++ [rectR.row 39 (o' ++ emit ⟨xs[i], xs[i + 1], rest⟩)]))) (fun j o' => o'.length = o.length + j) (by omega) rfl]
            · simp -implicitDefEqProofs [k24_17, w1, trim_le, -Int.natCast_add]
              exact ih
            · simp -implicitDefEqProofs [k24_17]
            · rfl
            · intro nx j o' hj _
              have e0 : emit ⟨xs[i], xs[i + 1], []⟩ = [] := rfl
              have w2 : IntKind.i64.wrap (((2 * j : Nat) : Int) + 1) = ((2 * j + 1 : Nat) : Int) := wrap64 (by omega) (by omega)
              have hjn : ¬ (((2 * j + 1 : Nat) : Int) < ((ends c).length : Int)) := by omega
              have hjn' : ¬ (2 * j + 1 < (ends c).length) := by omega
              simp -implicitDefEqProofs [r24_17, k24_17, iT_len, w2, hjn, hjn', e0, trim_le, -Int.natCast_add, -Int.natCast_mul]
            · intro nx j s rest o' hj hv hd hw ho ih
              obtain ⟨g1, g2, g3, g4⟩ := ends_at hj
              have st := st17 o' j hj (by omega)
              rw [hv] at g3 g4 st
              have w2 : IntKind.i64.wrap (((2 * j : Nat) : Int) + 1) = ((2 * j + 1 : Nat) : Int) := wrap64 (by omega) (by omega)
              have w3 : IntKind.i64.wrap (((2 * j : Nat) : Int) + 2) = ((2 * (j + 1) : Nat) : Int) := (wrap64 (by omega) (by omega)).trans (by omega)
              have hjn : ((2 * j + 1 : Nat) : Int) < ((ends c).length : Int) := by omega
              have ixa := iT_index (l := ends c) (i := 2 * j) g1
              have ixb := iT_index (l := ends c) (i := 2 * j + 1) g2
              rw [g3] at ixa
              rw [g4] at ixb
              have ih := ih (o' ++ [⟨xs[i], s.1, xs[i + 1], s.2⟩]) (by rw [List.length_append]; show o'.length + 1 = _; omega)
              rw [emit_cons, ← List.append_assoc]
              simp -implicitDefEqProofs [k24_17, -List.append_assoc, -Int.natCast_add, -Int.natCast_mul] at ih
              simp -implicitDefEqProofs [r24_17, k24_17, iT_len, w1, w2, w3, hjn, g2, ix0, ix1, ixa, ixb, b4_all, lit_rect, st, set0, hl1, trim_le, -List.append_assoc, -Int.natCast_add, -Int.natCast_mul]
              exact ih
        · simp -implicitDefEqProofs [r24_6, k24_6, iT_len, w1, hii, hi, ix0, ret1 m44, ret1 m43, so, so2, so3, q1, q2, q3, gi, Rec.sl_len, -Int.natCast_add]
          have st17 := fun (o' : List Rect) (j : Nat) (hj : j < c.length) (ho : o'.length ≤ 200000000) => app_rect (h := (h ++ [rectR.row 39 o'])) (b := h.length) (lo := lo) (c := o') ⟨xs[i], c[j].1, xs[i + 1], c[j].2⟩ end0 hlo0 (by omega)
          rw [LL_for (γ := List Rect) c o (fun j o' => [(7, rectR.sl h.length o'), (14, .int .i64 ((2 * j : Nat) : Int))]) (fun _ o' => (h ++ [rectR.row 39 o']))
            (fun _ rest o' => (.exit 4, [(7, rectR.sl h.length (o' ++ emit ⟨xs[i], xs[i + 1], rest⟩)), (14, undef)], (h ++ [rectR.row 39 (o' ++ emit ⟨xs[i], xs[i + 1], rest⟩)]))) (fun j o' => o'.length = o.length + j) (by omega) rfl]
          · simp -implicitDefEqProofs [k24_17, w1, trim_le, -Int.natCast_add]
            exact ih
          · simp -implicitDefEqProofs [k24_17]
          · rfl
          · intro nx j o' hj _
            have e0 : emit ⟨xs[i], xs[i + 1], []⟩ = [] := rfl
            have w2 : IntKind.i64.wrap (((2 * j : Nat) : Int) + 1) = ((2 * j + 1 : Nat) : Int) := wrap64 (by omega) (by omega)
            have hjn : ¬ (((2 * j + 1 : Nat) : Int) < ((ends c).length : Int)) := by omega
            have hjn' : ¬ (2 * j + 1 < (ends c).length) := by omega
            simp -implicitDefEqProofs [r24_17, k24_17, iT_len, w2, hjn, hjn', e0, trim_le, -Int.natCast_add, -Int.natCast_mul]
          · intro nx j s rest o' hj hv hd hw ho ih
            obtain ⟨g1, g2, g3, g4⟩ := ends_at hj
            have st := st17 o' j hj (by omega)
            rw [hv] at g3 g4 st
            have w2 : IntKind.i64.wrap (((2 * j : Nat) : Int) + 1) = ((2 * j + 1 : Nat) : Int) := wrap64 (by omega) (by omega)
            have w3 : IntKind.i64.wrap (((2 * j : Nat) : Int) + 2) = ((2 * (j + 1) : Nat) : Int) := (wrap64 (by omega) (by omega)).trans (by omega)
            have hjn : ((2 * j + 1 : Nat) : Int) < ((ends c).length : Int) := by omega
            have ixa := iT_index (l := ends c) (i := 2 * j) g1
            have ixb := iT_index (l := ends c) (i := 2 * j + 1) g2
            rw [g3] at ixa
            rw [g4] at ixb
            have ih := ih (o' ++ [⟨xs[i], s.1, xs[i + 1], s.2⟩]) (by rw [List.length_append]; show o'.length + 1 = _; omega)
            rw [emit_cons, ← List.append_assoc]
            simp -implicitDefEqProofs [k24_17, -List.append_assoc, -Int.natCast_add, -Int.natCast_mul] at ih
            simp -implicitDefEqProofs [r24_17, k24_17, iT_len, w1, w2, w3, hjn, g2, ix0, ix1, ixa, ixb, b4_all, lit_rect, st, set0, hl1, trim_le, -List.append_assoc, -Int.natCast_add, -Int.natCast_mul]
            exact ih
    · have hfin : i = S.length := by omega
      have hout : FS.out ⟨i, P, x0, w⟩ xs = F := by
        unfold FS.out
        by_cases hi0 : i = 0
        · rw [if_pos hi0, ← hFe]
          have : S = [] := List.eq_nil_of_length_eq_zero (by omega)
          rw [this]; rfl
        · rw [if_neg hi0]
          have h3 := h3 hi0
          rw [List.drop_of_length_le (by omega), Rg.runs_end] at h3
          exact h3
      have w1 : IntKind.i64.wrap ((i : Int) + 1) = ((i + 1 : Nat) : Int) := wrap64 (by omega) (by omega)
      have hii : ¬ (((i + 1 : Nat) : Int) < (xs.length : Int)) := by omega
      rw [hout]
      simp -implicitDefEqProofs [r24_6, k24_6, iT_len, w1, hii, hi, trim_le, -Int.natCast_add]
theorem form_spec (k m : Option Bool) (a b : List Rect) (z : Int) (f : Bool → Bool → Bool) (hz : (z = 0 ∧ f = orF) ∨ (z = 1 ∧ f = andF) ∨ (z = 2 ∧ f = subF)) (hk : Rec.Ok k a) (hm : Rec.Ok m b) (ha : a.length ≤ 500) (hb : b.length ≤ 500) (hya : ∀ r ∈ a, r.y0 < r.y1) (hyb : ∀ r ∈ b, r.y0 < r.y1)
    (h : Heap) (lo : Nat) (hlo : lo ≤ h.length) :
    retCall E (L E) lo false 24 [rectR.o k a, rectR.o m b, .int .i64 z] h = some (rectR.sl h.length (refL f a b), h ++ [rectR.row 39 (refL f a b)]) := by
  rw [ret3 m24]
  show ((L E 24 [rectR.o k a, rectR.o m b, .int .i64 z] h lo).map _) = _
  rw [form_L k m a b z f hz hk hm ha hb hya hyb h lo hlo]
  show some (_, trim _ _ _) = _
  rw [trim_no]
  have hn : ¬ (h.length < h.length) := Nat.lt_irrefl _
  exact decide_eq_false hn
end Go.Proofs.Ythnkmmbkdbdefaa.Bm

namespace Go.Proofs.Ythnkmmbkdbdefaa.Bm
open Go Go.RowKit
open Rg (Rect cell ofL opL)

theorem ref_of {l : List Rect} (hl : ∀ r ∈ l, r.y0 < r.y1) : refL orF l [] = ofL l := by
  obtain ⟨h1, h2⟩ := refL_ok orF rfl hl (fun r hr => absurd hr List.not_mem_nil)
  refine h1.ext (Rg.ofL_ok hl).1 fun x y => ?_
  rw [h2, (Rg.ofL_ok hl).2]
  exact Bool.or_false _
theorem ref_op (f : Bool → Bool → Bool) (hf : f false false = false) {a b : List Rect} (ha : ∀ r ∈ a, r.y0 < r.y1) (hb : ∀ r ∈ b, r.y0 < r.y1) : refL f a b = opL f a b := by
  obtain ⟨h1, h2⟩ := refL_ok f hf ha hb
  obtain ⟨h3, h4⟩ := Rg.opL_ok f hf ha hb
  exact h1.ext h3 fun x y => by rw [h2, h4]
theorem rright_spec (r : Rect) : pureCall E.P (L E) 51 [rectR.val r] = some (.bool (okR r)) := by
  rw [pureCall_fn F51 rfl]
  simp -implicitDefEqProofs [r51, padS, rect_val]
  unfold okR
  by_cases h1 : 0 ≤ r.x0
  case neg => simp -implicitDefEqProofs [h1]
  by_cases h2 : r.x0 < r.x1
  case neg => simp -implicitDefEqProofs [h1, h2]
  by_cases h3 : r.x1 ≤ 1048576
  case neg => simp -implicitDefEqProofs [h1, h2, h3]
  by_cases h4 : 0 ≤ r.y0
  case neg => simp -implicitDefEqProofs [h1, h2, h3, h4]
  by_cases h5 : r.y0 < r.y1
  case neg => simp -implicitDefEqProofs [h1, h2, h3, h4, h5]
  simp -implicitDefEqProofs [h1, h2, h3, h4, h5]
theorem rright_s (r : Rect) : pureCall E.P (L E) 51 [.agg ⟨[.int .i64 r.x0, .int .i64 r.y0, .int .i64 r.x1, .int .i64 r.y1]⟩] = some (.bool (okR r)) := rright_spec r
theorem rof_spec (k : Option Bool) (l : List Rect) (hk : Rec.Ok k l) (hl : l.length ≤ 1000000) : pureCall E.P (L E) 31 [rectR.o k l] = some (resL (ofR l)) := by
  rw [pureCall_fn F31 rfl]
  simp -implicitDefEqProofs [r31, padS, Rec.o_len hk]
  rw [LL_for (γ := Unit) l () (fun i _ => [(4, .int .i64 i)]) (fun _ _ => []) (fun _ rest _ => if rest.all okR then (.exit 0, [(4, undef)], []) else (.ret, [(2, .slice none 0 0), (3, .int .i64 1), (4, undef)], [])) (fun _ _ => True) (by omega) trivial]
  · unfold ofR
    cases ha : l.all okR
    · simp -implicitDefEqProofs [k31_2, resL]
    · by_cases h4 : 400 < l.length
      · have h4i : 400 < (l.length : Int) := by omega
        simp -implicitDefEqProofs [k31_2, resL, h4, h4i, Rec.o_len hk]
      · have h4' : ¬ (400 < (l.length : Int)) := by omega
        have hy := ofL_ok' ha
        have fs := form_spec k none l [] 0 orF (.inl ⟨rfl, rfl⟩) hk (fun _ => rfl) (by omega) (Nat.zero_le _) hy (fun r hr => absurd hr List.not_mem_nil) [] 0 (Nat.zero_le _)
        rw [ref_of hy] at fs
        simp only [List.length_nil, List.nil_append] at fs
        have rr := Rec.reify_row (R := rectR) (P := E.P) (h := [rectR.row 39 (ofL l)]) (b := 0) (n := 7) (t := 39) (l := ofL l) rfl s32 a32
        have en : rectR.o none ([] : List Rect) = .slice none 0 0 := rfl
        rw [en] at fs
        have so : settled depth (rectR.o k l) = true := Rec.o_set
        have so2 : settled depth (.slice none 0 0) = true := rfl
        have so3 : settled depth (.int .i64 0) = true := rfl
        by_cases h2 : (ofL l).length ≤ 200
        · have h2' : ¬ (200 < ((ofL l).length : Int)) := by omega
          simp -implicitDefEqProofs [k31_2, resL, h4, h4', Rec.o_len hk, fs, rr, Rec.sl_len, h2, h2']
        · have h2' : 200 < ((ofL l).length : Int) := by omega
          simp -implicitDefEqProofs [k31_2, resL, h4, h4', Rec.o_len hk, fs, rr, Rec.sl_len, h2, h2']
  · simp -implicitDefEqProofs [k31_2]
  · rfl
  · intro nx i c hi _
    simp -implicitDefEqProofs [r31_2, k31_2, hi, Rec.o_len hk, trim_le]
  · intro nx i r rest c hi hv hd hw _ ih
    have ih := ih () trivial
    have ixi := Rec.o_index (R := rectR) (t := 39) (kk := .i64) (s := 4) rfl hk hi
    rw [hv] at ixi
    have hr := rright_s r
    cases h : okR r
    · simp -implicitDefEqProofs [r31_2, k31_2, hi, ixi, Rec.o_len hk, rect_val, ret0 m51, hr, h, trim_le]
    · simp -implicitDefEqProofs [k31_2] at ih
      simp -implicitDefEqProofs [r31_2, k31_2, hi, ixi, Rec.o_len hk, rect_val, ret0 m51, hr, h, hw, trim_le]
      exact ih
theorem rright2_spec (k : Option Bool) (l : List Rect) (hk : Rec.Ok k l) (hl : l.length ≤ 1000000) : pureCall E.P (L E) 21 [rectR.o k l] = some (.bool (regB l)) := by
  have ho := rof_spec k l hk hl
  have so : settled depth (rectR.o k l) = true := Rec.o_set
  rw [pureCall_fn F21 rfl]
  unfold regB
  have hle : ∀ m, ofR l = .ok m → m.length ≤ 200 := fun m h => by
    unfold ofR at h
    split at h
    · split at h
      · cases h
      · split at h
        · cases h; assumption
        · cases h
    · cases h
  have hne : ∀ e, ofR l = .error e → e = 1 ∨ e = 6 := fun m h => by
    unfold ofR at h
    split at h
    · split at h
      · cases h; exact .inr rfl
      · split at h
        · cases h
        · cases h; exact .inr rfl
    · cases h; exact .inl rfl
  cases h : ofR l with
  | error e =>
    rw [h] at ho
    have e0 : ¬ (e = 0) := by have := hne e h; omega
    simp only [resL] at ho
    simp -implicitDefEqProofs [r21, p21, ret1 m31, so, ho, e0]
  | ok m =>
    rw [h] at ho
    have he := same_rects (some false) k m l Rec.ok_some hk (by have := hle m h; omega)
    rw [show rectR.o (some false) m = lst false (rectR.vals m) from rfl] at he
    simp only [resL] at ho
    simp -implicitDefEqProofs [r21, p21, ret1 m31, so, ho, ret0 m17, Rec.o_reify, he]
theorem rhas_spec (k : Option Bool) (l : List Rect) (x y : Int) (hk : Rec.Ok k l) (hl : l.length ≤ 1000000) : pureCall E.P (L E) 22 [rectR.o k l, .int .i64 x, .int .i64 y] = some (.bool (regB l && cell l x y)) := by
  have hr := rright2_spec k l hk hl
  rw [pureCall_fn F22 rfl]
  cases h0 : regB l
  · simp -implicitDefEqProofs [r22, p22, ret0 m21, Rec.o_reify, hr, h0]
  simp -implicitDefEqProofs [r22, p22, ret0 m21, Rec.o_reify, hr, h0, Rec.o_len hk]
  rw [LL_for (γ := Unit) l () (fun i _ => [(7, .int .i64 i)]) (fun _ _ => []) (fun _ rest _ => if cell rest x y then (.ret, [(6, .bool true), (7, undef)], []) else (.exit 0, [(7, undef)], [])) (fun _ _ => True) (by omega) trivial]
  · cases h : cell l x y <;> simp -implicitDefEqProofs [k22_4]
  · simp -implicitDefEqProofs [k22_4]
  · rfl
  · intro nx i c hi _
    simp -implicitDefEqProofs [r22_4, k22_4, hi, Rec.o_len hk, trim_le, cell]
  · intro nx i r rest c hi hv hd hw _ ih
    have ih := ih () trivial
    have ixi := Rec.o_index (R := rectR) (t := 39) (kk := .i64) (s := 4) rfl hk hi
    rw [hv] at ixi
    have e : cell (r :: rest) x y = (r.has x y || cell rest x y) := rfl
    have eh : r.has x y = (decide (r.x0 ≤ x) && decide (x < r.x1) && (decide (r.y0 ≤ y) && decide (y < r.y1))) := rfl
    rw [e, eh]
    simp -implicitDefEqProofs [k22_4] at ih
    by_cases h1 : r.x0 ≤ x
    case neg =>
      simp -implicitDefEqProofs [r22_4, k22_4, hi, ixi, Rec.o_len hk, rect_val, h1, hw, trim_le]
      exact ih
    by_cases h2 : x < r.x1
    case neg =>
      simp -implicitDefEqProofs [r22_4, k22_4, hi, ixi, Rec.o_len hk, rect_val, h1, h2, hw, trim_le]
      exact ih
    by_cases h3 : r.y0 ≤ y
    case neg =>
      simp -implicitDefEqProofs [r22_4, k22_4, hi, ixi, Rec.o_len hk, rect_val, h1, h2, h3, hw, trim_le]
      exact ih
    by_cases h4 : y < r.y1
    case neg =>
      simp -implicitDefEqProofs [r22_4, k22_4, hi, ixi, Rec.o_len hk, rect_val, h1, h2, h3, h4, hw, trim_le]
      exact ih
    simp -implicitDefEqProofs [r22_4, k22_4, hi, ixi, Rec.o_len hk, rect_val, h1, h2, h3, h4, trim_le]
end Go.Proofs.Ythnkmmbkdbdefaa.Bm

namespace Go.Proofs.Ythnkmmbkdbdefaa.Rg

/-! ### Grown -/
def growR (d : Int) (r : Rect) : Rect := ⟨max (r.x0 - d) 0, max (r.y0 - d) 0, min (r.x1 + d) 1048576, min (r.y1 + d) 1048576⟩
def growL (d : Int) (a : List Rect) : List Rect := a.map (growR d)
theorem growR_box {d : Int} {r : Rect} (hd : 0 ≤ d) (h : r.inBox 1048576) : (growR d r).inBox 1048576 := by
  unfold growR Rect.inBox at *
  simp only
  omega
theorem growL_box {d : Int} {a : List Rect} (hd : 0 ≤ d) (h : ∀ r ∈ a, r.inBox 1048576) : ∀ r ∈ growL d a, r.inBox 1048576 := fun r hr => by
  obtain ⟨s, hs, rfl⟩ := List.mem_map.1 hr
  exact growR_box hd (h s hs)
/-- A cell of the grid that is near one of a set. -/
def Gro (d : Int) (S : Int → Int → Bool) (x y : Int) : Prop := (0 ≤ x ∧ x < 1048576 ∧ 0 ≤ y ∧ y < 1048576) ∧ ∃ i k, x - d ≤ i ∧ i ≤ x + d ∧ y - d ≤ k ∧ k ≤ y + d ∧ S i k = true
theorem grow_cell {d : Int} {a : List Rect} (hd : 0 ≤ d) (h : ∀ r ∈ a, r.inBox 1048576) {x y : Int} : cell (growL d a) x y = true ↔ Gro d (cell a) x y := by
  rw [cell_true]
  constructor
  · rintro ⟨s, hs, h1, h2, h3, h4⟩
    have hb := growL_box hd h s hs
    obtain ⟨r, hr, rfl⟩ := List.mem_map.1 hs
    have hr' := h r hr
    unfold Rect.inBox at hb hr'
    unfold growR at h1 h2 h3 h4
    simp only at h1 h2 h3 h4
    refine ⟨by omega, max r.x0 (min x (r.x1 - 1)), max r.y0 (min y (r.y1 - 1)), by omega, by omega, by omega, by omega, cell_true.2 ⟨r, hr, by omega, by omega, by omega, by omega⟩⟩
  · rintro ⟨hg, i, k, h1, h2, h3, h4, hc⟩
    obtain ⟨r, hr, g1, g2, g3, g4⟩ := cell_true.1 hc
    refine ⟨growR d r, List.mem_map.2 ⟨r, hr, rfl⟩, ?_, ?_, ?_, ?_⟩ <;> unfold growR <;> simp only <;> omega
theorem Gro.congr {d : Int} {S T : Int → Int → Bool} (h : ∀ x y, S x y = T x y) {x y : Int} : Gro d S x y ↔ Gro d T x y := by
  unfold Gro
  simp only [h]
/-- Grown twice. -/
theorem gro_gro {d n : Int} {S T : Int → Int → Bool} (hd : 0 ≤ d) (hn : 0 ≤ n) (hS : ∀ x y, S x y = true → 0 ≤ x ∧ x < 1048576 ∧ 0 ≤ y ∧ y < 1048576) (hT : ∀ x y, T x y = true ↔ Gro d S x y) {x y : Int} : Gro n T x y ↔ Gro (d + n) S x y := by
  constructor
  · rintro ⟨hg, u, v, h1, h2, h3, h4, hc⟩
    obtain ⟨_, i, k, g1, g2, g3, g4, gc⟩ := (hT u v).1 hc
    exact ⟨hg, i, k, by omega, by omega, by omega, by omega, gc⟩
  · rintro ⟨hg, i, k, h1, h2, h3, h4, hc⟩
    have hb := hS i k hc
    refine ⟨hg, max (i - d) (min (i + d) x), max (k - d) (min (k + d) y), by omega, by omega, by omega, by omega, (hT _ _).2 ⟨by omega, i, k, by omega, by omega, by omega, by omega, hc⟩⟩

/-! ### Shrunk -/
/-- A cell of whose surroundings all are in a set. -/
def Ero (d : Int) (S : Int → Int → Bool) (x y : Int) : Prop := ∀ i k, x - d ≤ i → i ≤ x + d → y - d ≤ k → k ≤ y + d → S i k = true
theorem Ero.congr {d : Int} {S T : Int → Int → Bool} (h : ∀ x y, S x y = T x y) {x y : Int} : Ero d S x y ↔ Ero d T x y := by
  unfold Ero
  simp only [h]
theorem ero_ero {d n : Int} {S T : Int → Int → Bool} (hd : 0 ≤ d) (hn : 0 ≤ n) (hT : ∀ x y, T x y = true ↔ Ero d S x y) {x y : Int} : Ero n T x y ↔ Ero (d + n) S x y := by
  constructor
  · intro h i k h1 h2 h3 h4
    exact (hT _ _).1 (h (max (x - n) (min (x + n) i)) (max (y - n) (min (y + n) k)) (by omega) (by omega) (by omega) (by omega)) i k (by omega) (by omega) (by omega) (by omega)
  · intro h u v h1 h2 h3 h4
    exact (hT u v).2 fun i k g1 g2 g3 g4 => h i k (by omega) (by omega) (by omega) (by omega)
theorem ero_sub {d : Int} {S : Int → Int → Bool} (hd : 0 ≤ d) {x y : Int} (h : Ero d S x y) : S x y = true := h x y (by omega) (by omega) (by omega) (by omega)

/-! ### Columns shrunk, and what is common to two -/
theorem canS_weak : ∀ {c : List (Int × Int)} {b b' : Int}, canS b c → b' ≤ b → canS b' c
  | [], _, _, _, _ => trivial
  | (f, t) :: c, b, b', h, hb => ⟨by have := h.1; omega, h.2⟩
def shr (d : Int) (c : List (Int × Int)) : List (Int × Int) := c.filterMap fun s => if s.1 + d < s.2 - d then some (s.1 + d, s.2 - d) else none
theorem shr_cons {d : Int} {s : Int × Int} {c : List (Int × Int)} : shr d (s :: c) = (if s.1 + d < s.2 - d then [(s.1 + d, s.2 - d)] else []) ++ shr d c := by
  unfold shr
  rw [List.filterMap_cons]
  split
  · rename_i h; split at h <;> simp_all
  · rename_i h; split at h <;> simp_all
theorem shr_can {d : Int} (hd : 0 ≤ d) : ∀ {c : List (Int × Int)} {b : Int}, canS b c → canS (b + d) (shr d c)
  | [], _, _ => trivial
  | (f, t) :: c, b, h => by
    have ih := shr_can hd h.2.2
    have h1 := h.1
    have h2 := h.2.1
    rw [shr_cons]
    split
    · rename_i h3
      simp only at h3
      exact ⟨by simp only; omega, h3, canS_weak ih (by simp only; omega)⟩
    · exact canS_weak ih (by omega)
theorem hasS_true {c : List (Int × Int)} {y : Int} : hasS c y = true ↔ ∃ s ∈ c, s.1 ≤ y ∧ y < s.2 := by
  unfold hasS
  rw [List.any_eq_true]
  simp only [Bool.and_eq_true, decide_eq_true_eq]
theorem canS_end : ∀ {c : List (Int × Int)} {b : Int}, canS b c → ∀ s ∈ c, hasS c s.2 = false
  | [], _, _, s, hs => by cases hs
  | (f, t) :: c, b, h, s, hs => by
    rw [hasS_cons]
    rcases List.mem_cons.1 hs with rfl | hs
    · rw [canS_low h.2.2 (Int.le_refl _)]
      simp
    · rw [canS_end h.2.2 s hs]
      have : t < s.1 := by
        have key : ∀ {c : List (Int × Int)} {b : Int}, canS b c → ∀ s ∈ c, b < s.1 := by
          intro c
          induction c with
          | nil => intro _ _ s hs; cases hs
          | cons u c ih =>
            intro b h s hs
            obtain ⟨f, t⟩ := u
            rcases List.mem_cons.1 hs with rfl | hs
            · exact h.1
            · have := ih h.2.2 s hs; have := h.1; have := h.2.1; omega
        exact key h.2.2 s hs
      have := canS_all h.2.2 s hs
      have h4 : ¬ s.2 < t := by omega
      simp [h4]
theorem shr_has {d : Int} (hd : 0 ≤ d) {c : List (Int × Int)} (h : Can c) (y : Int) : hasS (shr d c) y = true ↔ ∀ k, y - d ≤ k → k ≤ y + d → hasS c k = true := by
  obtain ⟨b, hb⟩ : ∃ b, canS b c := by
    obtain ⟨b, hb, _⟩ := low_ex c []
    exact ⟨b, canS_ex h b hb⟩
  rw [hasS_true]
  constructor
  · rintro ⟨s, hs, h1, h2⟩ k h3 h4
    obtain ⟨u, hu, e⟩ := List.mem_filterMap.1 hs
    split at e
    · cases e
      exact hasS_true.2 ⟨u, hu, by simp only at h1; omega, by simp only at h2; omega⟩
    · cases e
  · intro hk
    obtain ⟨u, hu, h1, h2⟩ := hasS_true.1 (hk (y - d) (by omega) (by omega))
    have h3 : y + d < u.2 := by
      apply Classical.byContradiction
      intro hno
      have h4 := hk u.2 (by omega) (by omega)
      rw [canS_end hb u hu] at h4
      cases h4
    refine ⟨(u.1 + d, u.2 - d), List.mem_filterMap.2 ⟨u, hu, if_pos (by omega)⟩, by simp only; omega, by simp only; omega⟩
def comI (s : Int × Int) (b : List (Int × Int)) : List (Int × Int) := b.filterMap fun u => if max s.1 u.1 < min s.2 u.2 then some (max s.1 u.1, min s.2 u.2) else none
def comC (a b : List (Int × Int)) : List (Int × Int) := a.flatMap fun s => comI s b
theorem comI_cons {s u : Int × Int} {b : List (Int × Int)} : comI s (u :: b) = (if max s.1 u.1 < min s.2 u.2 then [(max s.1 u.1, min s.2 u.2)] else []) ++ comI s b := by
  unfold comI
  rw [List.filterMap_cons]
  split
  · rename_i h; split at h <;> simp_all
  · rename_i h; split at h <;> simp_all
theorem comI_can {s : Int × Int} : ∀ {b : List (Int × Int)} {m : Int}, canS m b → canS (max m (s.1 - 1)) (comI s b)
  | [], _, _ => trivial
  | (f, t) :: b, m, h => by
    have ih := comI_can (s := s) h.2.2
    have h1 := h.1
    have h2 := h.2.1
    rw [comI_cons]
    split
    · rename_i h3
      simp only at h3
      exact ⟨by simp only; omega, h3, canS_weak ih (by simp only; omega)⟩
    · exact canS_weak ih (by omega)
theorem canS_append : ∀ {I J : List (Int × Int)} {b t : Int}, canS b I → (∀ s ∈ I, s.2 ≤ t) → b ≤ t → canS t J → canS b (I ++ J)
  | [], J, b, t, _, _, hb, hJ => canS_weak hJ hb
  | (f, u) :: I, J, b, t, h, hI, hb, hJ => ⟨h.1, h.2.1, canS_append h.2.2 (fun s hs => hI s (by simp [hs])) (hI (f, u) (by simp)) hJ⟩
theorem comC_can : ∀ {a : List (Int × Int)} {b : List (Int × Int)} {m n : Int}, canS m a → canS n b → canS m (comC a b)
  | [], _, _, _, _, _ => trivial
  | (f, t) :: a, b, m, n, ha, hb => by
    have ih := comC_can ha.2.2 hb
    have h1 := ha.1
    have h2 := ha.2.1
    show canS m (comI (f, t) b ++ comC a b)
    refine canS_append (t := t) (canS_weak (comI_can (s := (f, t)) hb) (by simp only; omega)) (fun s hs => ?_) (by omega) ih
    obtain ⟨u, _, e⟩ := List.mem_filterMap.1 hs
    split at e
    · cases e; simp only; omega
    · cases e
theorem comC_has {a b : List (Int × Int)} {y : Int} : hasS (comC a b) y = true ↔ hasS a y = true ∧ hasS b y = true := by
  rw [hasS_true, hasS_true, hasS_true]
  constructor
  · rintro ⟨s, hs, h1, h2⟩
    obtain ⟨u, hu, hs⟩ := List.mem_flatMap.1 hs
    obtain ⟨v, hv, e⟩ := List.mem_filterMap.1 hs
    split at e
    · cases e
      simp only at h1 h2
      exact ⟨⟨u, hu, by omega, by omega⟩, v, hv, by omega, by omega⟩
    · cases e
  · rintro ⟨⟨u, hu, h1, h2⟩, v, hv, h3, h4⟩
    exact ⟨(max u.1 v.1, min u.2 v.2), List.mem_flatMap.2 ⟨u, hu, List.mem_filterMap.2 ⟨v, hv, if_pos (by omega)⟩⟩, by simp only; omega, by simp only; omega⟩

/-! ### The window -/
structure Win where
  next : Int
  gap : Bool
  first : Bool
  out : List (Int × Int)
def wstep (x d : Int) (w : Win) (s : Slab) : Win :=
  if w.gap = true ∨ s.x1 ≤ w.next ∨ x + d < s.x0 then w
  else if w.next < s.x0 then { w with gap := true }
  else if w.first = true then ⟨s.x1, w.gap, false, s.col⟩
  else ⟨s.x1, w.gap, w.first, comC w.out s.col⟩
def winC (T : List Slab) (x d : Int) : List (Int × Int) :=
  let w := T.foldl (wstep x d) ⟨x - d, false, true, []⟩
  if w.gap = true ∨ w.next ≤ x + d then [] else w.out
/-- Slabs one behind the other. -/
def rowT : List Slab → Prop
  | [] => True
  | s :: T => s.x0 < s.x1 ∧ Can s.col ∧ (∀ u ∈ T, s.x1 ≤ u.x0) ∧ rowT T
theorem rowT_pos : ∀ {T : List Slab}, rowT T → ∀ s ∈ T, s.x0 < s.x1 ∧ Can s.col
  | [], _, s, hs => by cases hs
  | u :: T, h, s, hs => by
    rcases List.mem_cons.1 hs with rfl | hs
    · exact ⟨h.1, h.2.1⟩
    · exact rowT_pos h.2.2.2 s hs
theorem wstep_gap {x d : Int} : ∀ (T : List Slab) (w : Win), w.gap = true → (T.foldl (wstep x d) w).gap = true
  | [], _, h => h
  | s :: T, w, h => by
    rw [List.foldl_cons]
    have : wstep x d w s = w := if_pos (.inl h)
    rw [this]
    exact wstep_gap T w h
def winR (x d : Int) (w : Win) : List (Int × Int) := if w.gap = true ∨ w.next ≤ x + d then [] else w.out
theorem win_ok {x d : Int} (hd : 0 ≤ d) : ∀ (T : List Slab) (w : Win), rowT T → w.gap = false → Can w.out → (w.first = true → w.next ≤ x + d ∧ w.out = []) → (w.first = false → ∀ s ∈ T, w.next ≤ s.x0) →
    Can (winR x d (T.foldl (wstep x d) w)) ∧ ∀ y, hasS (winR x d (T.foldl (wstep x d) w)) y = true ↔ (w.first = true ∨ hasS w.out y = true) ∧ ∀ i, w.next ≤ i → i ≤ x + d → ∃ s ∈ T, s.x0 ≤ i ∧ i < s.x1 ∧ hasS s.col y = true
  | [], w, _, hg, hc, hf, _ => by
    rw [List.foldl_nil]
    unfold winR
    rw [hg]
    by_cases h : w.next ≤ x + d
    · rw [if_pos (.inr h)]
      refine ⟨trivial, fun y => Iff.intro (fun h => by cases h) fun h' => ?_⟩
      obtain ⟨s, hs, _⟩ := h'.2 w.next (Int.le_refl _) h
      cases hs
    · rw [if_neg (by simp [h])]
      show Can w.out ∧ ∀ y, hasS w.out y = true ↔ _
      refine ⟨hc, fun y => Iff.intro (fun h' => ⟨.inr h', fun i h1 h2 => by have : w.next ≤ i := h1; omega⟩) fun h' => h'.1.resolve_left fun h1 => h (hf h1).1⟩
  | s :: T, w, hT, hg, hc, hf, hn => by
    obtain ⟨hs, hcs, hST, hT'⟩ := hT
    rw [List.foldl_cons]
    by_cases c1 : s.x1 ≤ w.next ∨ x + d < s.x0
    · have e : wstep x d w s = w := if_pos (.inr c1)
      rw [e]
      obtain ⟨i1, i2⟩ := win_ok hd T w hT' hg hc hf fun h u hu => hn h u (by simp [hu])
      refine ⟨i1, fun y => ?_⟩
      rw [i2]
      refine and_congr_right fun _ => forall_congr' fun i => forall_congr' fun h1 => forall_congr' fun h2 => ⟨fun ⟨u, hu, h⟩ => ⟨u, by simp [hu], h⟩, fun ⟨u, hu, h⟩ => ?_⟩
      rcases List.mem_cons.1 hu with rfl | hu
      · omega
      · exact ⟨u, hu, h⟩
    · by_cases c2 : w.next < s.x0
      · have e : wstep x d w s = { w with gap := true } := by
          unfold wstep
          rw [if_neg (by rw [hg]; simp; omega), if_pos c2]
        rw [e]
        have hgap := wstep_gap (x := x) (d := d) T { w with gap := true } rfl
        have e2 : winR x d (T.foldl (wstep x d) { w with gap := true }) = [] := if_pos (.inl hgap)
        rw [e2]
        refine ⟨trivial, fun y => Iff.intro (fun h => by cases h) fun h => ?_⟩
        obtain ⟨u, hu, h1, h2, _⟩ := h.2 w.next (Int.le_refl _) (by omega)
        rcases List.mem_cons.1 hu with rfl | hu
        · omega
        · have := hST u hu; omega
      · have c3 : s.x0 ≤ w.next ∧ w.next < s.x1 ∧ s.x0 ≤ x + d := by omega
        have hnx : w.next ≤ x + d := by
          cases hfw : w.first
          · have := hn hfw s (by simp); omega
          · exact (hf hfw).1
        have split : ∀ y, (∀ i, w.next ≤ i → i ≤ x + d → ∃ u ∈ s :: T, u.x0 ≤ i ∧ i < u.x1 ∧ hasS u.col y = true) ↔ hasS s.col y = true ∧ ∀ i, s.x1 ≤ i → i ≤ x + d → ∃ u ∈ T, u.x0 ≤ i ∧ i < u.x1 ∧ hasS u.col y = true := fun y => by
          constructor
          · intro h
            refine ⟨?_, fun i h1 h2 => ?_⟩
            · obtain ⟨u, hu, h1, h2, h3⟩ := h w.next (Int.le_refl _) hnx
              rcases List.mem_cons.1 hu with rfl | hu
              · exact h3
              · have := hST u hu; omega
            · obtain ⟨u, hu, h3⟩ := h i (by omega) h2
              rcases List.mem_cons.1 hu with rfl | hu
              · omega
              · exact ⟨u, hu, h3⟩
          · rintro ⟨h1, h2⟩ i h3 h4
            by_cases h5 : i < s.x1
            · exact ⟨s, by simp, by omega, h5, h1⟩
            · obtain ⟨u, hu, h6⟩ := h2 i (by omega) h4
              exact ⟨u, by simp [hu], h6⟩
        cases hfw : w.first
        · have e : wstep x d w s = ⟨s.x1, w.gap, w.first, comC w.out s.col⟩ := by
            unfold wstep
            rw [if_neg (by rw [hg]; simp; omega), if_neg c2, if_neg (by rw [hfw]; simp)]
          rw [e, hg, hfw]
          have hcc : Can (comC w.out s.col) := by
            obtain ⟨b1, hb1, _⟩ := low_ex w.out []
            obtain ⟨b2, hb2, _⟩ := low_ex s.col []
            exact Can.of (comC_can (canS_ex hc b1 hb1) (canS_ex hcs b2 hb2))
          obtain ⟨i1, i2⟩ := win_ok hd T ⟨s.x1, false, false, comC w.out s.col⟩ hT' rfl hcc (fun h => by cases h) fun _ u hu => hST u hu
          refine ⟨i1, fun y => ?_⟩
          rw [i2, split y]
          simp only [Bool.false_eq_true, false_or, comC_has]
          exact and_assoc
        · have e : wstep x d w s = ⟨s.x1, w.gap, false, s.col⟩ := by
            unfold wstep
            rw [if_neg (by rw [hg]; simp; omega), if_neg c2, if_pos hfw]
          rw [e, hg]
          obtain ⟨i1, i2⟩ := win_ok hd T ⟨s.x1, false, false, s.col⟩ hT' rfl hcs (fun h => by cases h) fun _ u hu => hST u hu
          refine ⟨i1, fun y => ?_⟩
          rw [i2, split y]
          simp only [Bool.false_eq_true, false_or, true_or, true_and]
theorem winC_ok {x d : Int} (hd : 0 ≤ d) {T : List Slab} (h : rowT T) : Can (winC T x d) ∧ ∀ y, hasS (winC T x d) y = true ↔ ∀ i, x - d ≤ i → i ≤ x + d → ∃ s ∈ T, s.x0 ≤ i ∧ i < s.x1 ∧ hasS s.col y = true := by
  obtain ⟨h1, h2⟩ := win_ok (x := x) hd T ⟨x - d, false, true, []⟩ h rfl trivial (fun _ => ⟨by simp only; omega, rfl⟩) (fun h => by cases h)
  refine ⟨h1, fun y => (h2 y).trans ?_⟩
  simp

/-! ### A form shrunk -/
def slabsC (d : Int) (T : List Slab) : List Slab := T.map fun s => ⟨s.x0, s.x1, shr d s.col⟩
theorem canT_row {d : Int} (hd : 0 ≤ d) : ∀ {T : List Slab} {b : Int} {c : List (Int × Int)}, canT b c T → rowT (slabsC d T)
  | [], _, _, _ => trivial
  | s :: T, b, c, h => by
    have hf := canT_facts h.2.2.2.2.2
    refine ⟨h.2.1, ?_, fun u hu => ?_, canT_row hd h.2.2.2.2.2⟩
    · obtain ⟨b, hb, _⟩ := low_ex s.col []
      exact Can.of (shr_can hd (canS_ex h.2.2.2.1 b hb))
    · obtain ⟨v, hv, rfl⟩ := List.mem_map.1 hu
      exact (hf.2 v hv).1
noncomputable def eroB (d : Int) (S : Int → Int → Bool) (x y : Int) : Bool := @decide (Ero d S x y) (Classical.propDecidable _)
theorem eroB_true {d : Int} {S : Int → Int → Bool} {x y : Int} : eroB d S x y = true ↔ Ero d S x y := by
  unfold eroB; exact @decide_eq_true_iff _ (Classical.propDecidable _)
theorem cellT_ex {T : List Slab} {x y : Int} : cellT T x y = true ↔ ∃ s ∈ T, s.x0 ≤ x ∧ x < s.x1 ∧ hasS s.col y = true := by
  unfold cellT
  rw [List.any_eq_true]
  simp only [Bool.and_eq_true, decide_eq_true_eq]
  exact ⟨fun ⟨s, hs, h⟩ => ⟨s, hs, h.1.1, h.1.2, h.2⟩, fun ⟨s, hs, h1, h2, h3⟩ => ⟨s, hs, ⟨h1, h2⟩, h3⟩⟩
theorem win_ero {d : Int} (hd : 0 ≤ d) {T : List Slab} {b : Int} {c : List (Int × Int)} (h : canT b c T) (x y : Int) : hasS (winC (slabsC d T) x d) y = eroB d (cell (outT T)) x y := by
  rw [Bool.eq_iff_iff, (winC_ok hd (canT_row hd h)).2 y, eroB_true]
  have hcan := (canT_facts h).2
  constructor
  · intro hw i k h1 h2 h3 h4
    obtain ⟨u, hu, g1, g2, g3⟩ := hw i h1 h2
    obtain ⟨s, hs, rfl⟩ := List.mem_map.1 hu
    rw [cell_outT, cellT_in h s hs i k g1 g2]
    exact (shr_has hd (hcan s hs).2.2 y).1 g3 k h3 h4
  · intro he i h1 h2
    have h0 := he i y h1 h2 (by omega) (by omega)
    rw [cell_outT] at h0
    obtain ⟨s, hs, g1, g2, _⟩ := cellT_ex.1 h0
    refine ⟨⟨s.x0, s.x1, shr d s.col⟩, List.mem_map.2 ⟨s, hs, rfl⟩, g1, g2, (shr_has hd (hcan s hs).2.2 y).2 fun k h3 h4 => ?_⟩
    have h5 := he i k h1 h2 h3 h4
    rw [cell_outT, cellT_in h s hs i k g1 g2] at h5
    exact h5
def shrinkX (d : Int) (T : List Slab) : List Int := sortU (T.flatMap fun s => [s.x0 + d, s.x1 + d, s.x0 - d, s.x1 - d])
def shrinkL (d : Int) (T : List Slab) : List Rect := outT (runsF (stripL (fun x => winC (slabsC d T) x d) (shrinkX d T)))
theorem shrink_ok {d : Int} (hd : 0 ≤ d) {T : List Slab} {b : Int} {c : List (Int × Int)} (h : canT b c T) : Form (shrinkL d T) ∧ ∀ x y, cell (shrinkL d T) x y = eroB d (cell (outT T)) x y := by
  have hrow := canT_row hd h
  have hx : ∀ s ∈ T, s.x0 + d ∈ shrinkX d T ∧ s.x1 + d ∈ shrinkX d T ∧ s.x0 - d ∈ shrinkX d T ∧ s.x1 - d ∈ shrinkX d T := fun s hs => by
    unfold shrinkX
    simp only [sortU_mem]
    exact ⟨List.mem_flatMap.2 ⟨s, hs, by simp⟩, List.mem_flatMap.2 ⟨s, hs, by simp⟩, List.mem_flatMap.2 ⟨s, hs, by simp⟩, List.mem_flatMap.2 ⟨s, hs, by simp⟩⟩
  have hE : EdgesX (T.flatMap fun s => [(⟨s.x0 + d, 0, s.x1 + d, 0⟩ : Rect), ⟨s.x0 - d, 0, s.x1 - d, 0⟩]) (shrinkX d T) := fun r hr => by
    obtain ⟨s, hs, hr⟩ := List.mem_flatMap.1 hr
    have := hx s hs
    simp only [List.mem_cons, List.not_mem_nil, or_false] at hr
    rcases hr with rfl | rfl
    · exact ⟨this.1, this.2.1⟩
    · exact ⟨this.2.2.1, this.2.2.2⟩
  have one : ∀ x x', (∀ r ∈ T.flatMap fun s => [(⟨s.x0 + d, 0, s.x1 + d, 0⟩ : Rect), ⟨s.x0 - d, 0, s.x1 - d, 0⟩], (r.x0 ≤ x ↔ r.x0 ≤ x') ∧ (x < r.x1 ↔ x' < r.x1)) → ∀ y, Ero d (cell (outT T)) x y → Ero d (cell (outT T)) x' y := by
    intro x x' hr y he i k h1 h2 h3 h4
    have hs : ∀ s ∈ T, ((s.x0 + d ≤ x ↔ s.x0 + d ≤ x') ∧ (x < s.x1 + d ↔ x' < s.x1 + d)) ∧ (s.x0 - d ≤ x ↔ s.x0 - d ≤ x') ∧ (x < s.x1 - d ↔ x' < s.x1 - d) := fun s hs =>
      ⟨hr ⟨s.x0 + d, 0, s.x1 + d, 0⟩ (List.mem_flatMap.2 ⟨s, hs, by simp⟩), hr ⟨s.x0 - d, 0, s.x1 - d, 0⟩ (List.mem_flatMap.2 ⟨s, hs, by simp⟩)⟩
    have move : ∀ j, (∀ s ∈ T, (s.x0 ≤ j ↔ s.x0 ≤ i) ∧ (j < s.x1 ↔ i < s.x1)) → cell (outT T) j k = true → cell (outT T) i k = true := fun j hj hc => by
      rw [cell_outT] at hc ⊢
      rw [← hc]
      exact any_ext fun s hs => by
        obtain ⟨q1, q2⟩ := hj s hs
        simp only [q1, q2]
    by_cases c1 : i < x - d
    · exact move (x - d) (fun s hs' => by have := hs s hs'; omega) (he (x - d) k (by omega) (by omega) h3 h4)
    · by_cases c2 : x + d < i
      · exact move (x + d) (fun s hs' => by have := hs s hs'; omega) (he (x + d) k (by omega) (by omega) h3 h4)
      · exact he i k (by omega) (by omega) h3 h4
  have hS : Steps (T.flatMap fun s => [(⟨s.x0 + d, 0, s.x1 + d, 0⟩ : Rect), ⟨s.x0 - d, 0, s.x1 - d, 0⟩]) (eroB d (cell (outT T))) := by
    refine ⟨fun x x' hr y => ?_, fun x hr y => ?_⟩
    · rw [Bool.eq_iff_iff, eroB_true, eroB_true]
      exact ⟨one x x' hr y, one x' x (fun r h => ⟨(hr r h).1.symm, (hr r h).2.symm⟩) y⟩
    · rw [Bool.eq_false_iff]
      intro he
      have h0 := eroB_true.1 he (x + d) y (by omega) (by omega) (by omega) (by omega)
      rw [cell_outT] at h0
      obtain ⟨s, hs, g1, g2, _⟩ := cellT_ex.1 h0
      exact hr ⟨s.x0 - d, 0, s.x1 - d, 0⟩ (List.mem_flatMap.2 ⟨s, hs, by simp⟩) ⟨by simp only; omega, by simp only; omega⟩
  exact strips_form hS (sortU_asc _) hE (fun x => winC (slabsC d T) x d) (fun x => (winC_ok hd hrow).1) fun x _ y => win_ero hd h x y

/-! ### Gaps -/
def gapR (r s : Rect) : Int := max 0 (max (max r.x0 s.x0 - min r.x1 s.x1) (max r.y0 s.y0 - min r.y1 s.y1))
theorem gapR_comm (r s : Rect) : gapR r s = gapR s r := by unfold gapR; omega
theorem gap_grow {d : Int} {r s : Rect} (hd : 0 ≤ d) (hr : r.inBox 1048576) (hs : s.inBox 1048576) : gapR r s ≤ d ↔ ∃ x y, (growR (d + 1) r).has x y = true ∧ s.has x y = true := by
  unfold Rect.inBox at hr hs
  unfold gapR growR Rect.has
  simp only [Bool.and_eq_true, decide_eq_true_eq]
  constructor
  · intro h
    exact ⟨max s.x0 (max (r.x0 - (d + 1)) 0), max s.y0 (max (r.y0 - (d + 1)) 0), by omega, by omega⟩
  · rintro ⟨x, y, h1, h2⟩
    omega
end Go.Proofs.Ythnkmmbkdbdefaa.Rg
