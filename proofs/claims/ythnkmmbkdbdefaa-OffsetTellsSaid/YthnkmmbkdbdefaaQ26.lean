/-
  Chapter 08: the statement on what the reference tells, walked. Conditions: none.
-/
import Derived.Test.YthnkmmbkdbdefaaQ25
namespace Go.Proofs.Ythnkmmbkdbdefaa.Bm
open Go Go.RowKit
open Rg (Rect cell growL growR gapR Gro Ero eroB)

def bj (b r : Rect) : Rect := ⟨min b.x0 r.x0, min b.y0 r.y0, max b.x1 r.x1, max b.y1 r.y1⟩
def bndL : List Rect → Rect
  | [] => ⟨0, 0, 0, 0⟩
  | r :: l => l.foldl bj r
def covR (b r : Rect) : Prop := b.x0 ≤ r.x0 ∧ b.y0 ≤ r.y0 ∧ r.x1 ≤ b.x1 ∧ r.y1 ≤ b.y1
theorem fold_in : ∀ (l : List Rect) (b : Rect), covR (l.foldl bj b) b ∧ ∀ r ∈ l, covR (l.foldl bj b) r
  | [], b => ⟨by unfold covR; simp only [List.foldl_nil]; omega, fun r hr => absurd hr List.not_mem_nil⟩
  | s :: l, b => by
    obtain ⟨h1, h2⟩ := fold_in l (bj b s)
    rw [List.foldl_cons]
    generalize l.foldl bj (bj b s) = z at *
    unfold covR bj at h1
    simp only at h1
    refine ⟨by unfold covR; omega, fun r hr => ?_⟩
    rcases List.mem_cons.1 hr with rfl | hr
    · unfold covR; omega
    · exact h2 r hr
theorem fold_box : ∀ (l : List Rect) (b : Rect), b.inBox 1048576 → (∀ r ∈ l, r.inBox 1048576) → (l.foldl bj b).inBox 1048576
  | [], b, hb, _ => hb
  | s :: l, b, hb, hl => by
    rw [List.foldl_cons]
    refine fold_box l _ ?_ fun r hr => hl r (List.mem_cons_of_mem _ hr)
    have := hl s (List.mem_cons_self ..)
    unfold Rect.inBox at *
    unfold bj
    simp only
    omega
theorem bnd_in {a : List Rect} : ∀ r ∈ a, covR (bndL a) r := fun r hr => by
  cases a with
  | nil => exact absurd hr List.not_mem_nil
  | cons s l =>
    obtain ⟨h1, h2⟩ := fold_in l s
    rcases List.mem_cons.1 hr with rfl | hr
    · exact h1
    · exact h2 r hr
theorem bnd_box {a : List Rect} (h0 : a ≠ []) (h : ∀ r ∈ a, r.inBox 1048576) : (bndL a).inBox 1048576 := by
  cases a with
  | nil => exact absurd rfl h0
  | cons s l => exact fold_box l s (h s (List.mem_cons_self ..)) fun r hr => h r (List.mem_cons_of_mem _ hr)
theorem bnd_cell {a : List Rect} {x y : Int} (h : cell a x y = true) : (bndL a).x0 ≤ x ∧ x < (bndL a).x1 ∧ (bndL a).y0 ≤ y ∧ y < (bndL a).y1 := by
  obtain ⟨r, hr, p1, p2, p3, p4⟩ := Rg.cell_true.1 h
  have := bnd_in r hr
  unfold covR at this
  omega
theorem one_cell {b : Rect} {x y : Int} : cell [b] x y = true ↔ b.x0 ≤ x ∧ x < b.x1 ∧ b.y0 ≤ y ∧ y < b.y1 := by
  rw [Rg.cell_true]
  exact ⟨fun ⟨r, hr, h⟩ => by rw [List.mem_singleton.1 hr] at h; exact h, fun h => ⟨b, List.mem_singleton.2 rfl, h⟩⟩
theorem ero_in {a : List Rect} {d x y : Int} (h0 : 0 ≤ d) (h : Ero d (cell a) x y) : (bndL a).x0 + d ≤ x ∧ x < (bndL a).x1 - d ∧ (bndL a).y0 + d ≤ y ∧ y < (bndL a).y1 - d := by
  have h1 := bnd_cell (h (x - d) (y - d) (by omega) (by omega) (by omega) (by omega))
  have h2 := bnd_cell (h (x + d) (y + d) (by omega) (by omega) (by omega) (by omega))
  omega
theorem shrinkF_nil {d : Int} {a : List Rect} (h0 : 0 ≤ d) (h : Rg.Form a) (he : ∀ x y, ¬ Ero d (cell a) x y) : shrinkF d a = [] := by
  obtain ⟨hf, hc⟩ := shrinkF_ok h0 h
  refine List.isEmpty_iff.1 ((empty_iff hf).2 fun x y => ?_)
  rw [hc]
  cases q : eroB d (cell a) x y
  · rfl
  · exact absurd (Rg.eroB_true.1 q) (he x y)
theorem shrinkF_small {d : Int} {a : List Rect} (h : regB a = true) (h0 : 0 ≤ d) (h1 : d ≤ 1048576) (ha : a ≠ []) (hs : okR (shrR d (bndL a)) = false) : shrinkF d a = [] := by
  refine shrinkF_nil h0 (regB_iff.1 h).2.2 fun x y he => ?_
  have q := ero_in h0 he
  have hb := bnd_box ha (reg_box h)
  have : okR (shrR d (bndL a)) = true := by
    rw [okR_iff]
    unfold Rect.inBox at *
    unfold shrR
    simp only
    omega
  rw [hs] at this; cases this
def holesL (a : List Rect) : List Rect := refL subF [bndL a] a
theorem one_y {b : Rect} (h : b.inBox 1048576) : ∀ r ∈ [b], r.y0 < r.y1 := fun r hr => by
  rw [List.mem_singleton.1 hr]
  unfold Rect.inBox at h
  omega
theorem holes_ok {a : List Rect} (h : regB a = true) (ha : a ≠ []) : Rg.Form (holesL a) ∧ (∀ x y, cell (holesL a) x y = (cell [bndL a] x y && !cell a x y)) ∧ ∀ r ∈ holesL a, r.inBox 1048576 := by
  have hb := bnd_box ha (reg_box h)
  obtain ⟨h1, h2⟩ := refL_ok subF rfl (one_y hb) (reg_y h)
  refine ⟨h1, h2, h1.box fun x y hxy => ?_⟩
  rw [h2] at hxy
  unfold subF at hxy
  rw [Bool.and_eq_true] at hxy
  have := one_cell.1 hxy.1
  unfold Rect.inBox at hb
  omega
theorem holes_len {a : List Rect} (h : regB a = true) (ha : a ≠ []) (hl : a.length ≤ 24) : (holesL a).length ≤ 625 := by
  have hb := bnd_box ha (reg_box h)
  obtain ⟨h1, h2⟩ := refL_ok subF rfl (one_y hb) (reg_y h)
  have dS : Rg.Det (bndL a :: a) (cell [bndL a]) := (Rg.cell_det [bndL a]).mono fun r hr => by rw [List.mem_singleton.1 hr]; exact List.mem_cons_self ..
  have dT : Rg.Det (bndL a :: a) (cell a) := (Rg.cell_det a).mono fun r hr => List.mem_cons_of_mem _ hr
  have h3 := Rg.form_bound (R := bndL a :: a) (fun r hr => by
    rcases List.mem_cons.1 hr with rfl | hr
    · unfold Rect.inBox at hb; omega
    · have := reg_box h r hr; unfold Rect.inBox at this; omega) (dS.op dT subF rfl) h1 h2
  rw [List.length_cons] at h3
  have h4 : (a.length + 1) * (a.length + 1) ≤ 25 * 25 := Nat.mul_le_mul (by omega) (by omega)
  exact Nat.le_trans h3 h4
theorem shrink_holes {d : Int} {a : List Rect} (h : regB a = true) (h0 : 0 ≤ d) (_h1 : d ≤ 1048576) (ha : a ≠ []) (hs : okR (shrR d (bndL a)) = true) : refL subF [shrR d (bndL a)] (growL d (holesL a)) = shrinkF d a := by
  obtain ⟨q1, q2, q3⟩ := holes_ok h ha
  have hsb := okR_iff.1 hs
  have gy : ∀ r ∈ growL d (holesL a), r.y0 < r.y1 := fun r hr => by
    have := Rg.growL_box h0 q3 r hr
    unfold Rect.inBox at this; omega
  obtain ⟨f1, f2⟩ := refL_ok subF rfl (one_y hsb) gy
  obtain ⟨g1, g2⟩ := shrinkF_ok h0 (regB_iff.1 h).2.2
  refine f1.ext g1 fun x y => Bool.eq_iff_iff.2 ?_
  rw [f2, g2, Rg.eroB_true]
  unfold subF
  rw [Bool.and_eq_true, one_cell]
  have hgr := Rg.grow_cell (d := d) h0 q3 (x := x) (y := y)
  have hbb := bnd_box ha (reg_box h)
  unfold Rect.inBox at hbb hsb
  unfold shrR at hsb ⊢
  simp only at hsb ⊢
  constructor
  · rintro ⟨⟨p1, p2, p3, p4⟩, hn⟩ i k r1 r2 r3 r4
    cases hc : cell a i k
    · exfalso
      have hh : cell (holesL a) i k = true := by
        rw [q2, hc, one_cell.2 ⟨by omega, by omega, by omega, by omega⟩]; rfl
      have := hgr.2 ⟨by omega, i, k, r1, r2, r3, r4, hh⟩
      rw [this] at hn; cases hn
    · rfl
  · intro he
    have q := ero_in h0 he
    refine ⟨⟨by omega, by omega, by omega, by omega⟩, ?_⟩
    cases hg : cell (growL d (holesL a)) x y
    · rfl
    · obtain ⟨_, i, k, r1, r2, r3, r4, hh⟩ := hgr.1 hg
      rw [q2, he i k r1 r2 r3 r4, Bool.not_true, Bool.and_false] at hh
      cases hh
theorem shrinkX_nil {d : Int} (h0 : 0 ≤ d) (h1 : d ≤ 1048576) : shrinkX [] d = .ok [] := by
  have hr : regB [] = true := by kernel_rfl
  unfold shrinkX
  rw [if_pos (valid_true hr h0 h1), shrinkF_nil h0 (regB_iff.1 hr).2.2 fun x y he => ?_]
  · rfl
  · have := he x y (by omega) (by omega) (by omega) (by omega)
    cases this
end Go.Proofs.Ythnkmmbkdbdefaa.Bm

namespace Go.Proofs.Ythnkmmbkdbdefaa.Bm
open Go Go.RowKit
open Rg (Rect cell growL growR gapR)

/-! ### A whole record stored -/
theorem flat_take {α : Type} {R : Rec α} {l : List α} {i : Nat} (h : i ≤ l.length) : (R.flat l).take (i * (R.m + 1)) = R.flat (l.take i) := by
  have e : R.flat l = R.flat (l.take i) ++ R.flat (l.drop i) := by rw [← Rec.flat_app, List.take_append_drop]
  have hl : (R.flat (l.take i)).length = i * (R.m + 1) := by rw [Rec.flat_len, List.length_take, Nat.min_eq_left h]
  rw [e, ← hl, List.take_left]
theorem flat_splice {α : Type} {R : Rec α} {l : List α} {i : Nat} {a : α} (h : i < l.length) : splice (R.flat l) (i * (R.m + 1)) (R.enc a) = R.flat (l.set i a) := by
  unfold splice
  have e : i * (R.m + 1) + (R.enc a).length = (i + 1) * (R.m + 1) := by rw [R.len, Nat.add_mul, Nat.one_mul]
  rw [e, flat_take (by omega), Rec.flat_drop, List.set_eq_take_append_cons_drop, if_pos h, Rec.flat_app]
  show _ = R.flat (l.take i) ++ (R.enc a ++ R.flat (l.drop (i + 1)))
  rw [List.append_assoc]
theorem store_row {α : Type} {R : Rec α} {h : Heap} {b lo n : Nat} {t : TypeId} {l : List α} {i : Nat} {a : α} (hn : n = R.m + 1) (hob : h[b]? = some (R.row t l)) (hlo : lo ≤ b) (h1 : i < l.length) :
    storeT (some n) h lo (R.val a) (R.at_ b l i 0) = some (h.set b (R.row t (l.set i a))) := by
  subst hn
  unfold Rec.at_
  have hv : cellsOf (R.val a) = some (R.enc a) := rfl
  rw [store_ptr, hv, Option.bind_some, if_pos (by rw [R.len])]
  have hin := Rec.in_row (R := R) h1
  have hob' : h[b]? = some (.cells t (R.flat l) (R.m + 1)) := hob
  unfold wrN
  show (match h[b]? with | some (.cells t c g) => _ | _ => none) = _
  rw [hob']
  show (if _ then _ else none) = _
  rw [if_pos ⟨hlo, by unfold stampOk; rw [Rec.flat_len]; simp, by rw [R.len]; omega, by rw [R.len, Rec.flat_len]; simpa using hin⟩]
  show some (h.set b (.cells t (splice (R.flat l) (i * (R.m + 1) + 0) (R.enc a)) (R.m + 1))) = _
  rw [Nat.add_zero, flat_splice h1]; rfl

/-! ### Bounds -/
set_option maxHeartbeats 1000000 in
theorem bounds_spec (k : Option Bool) (a : List Rect) (hk : Rec.Ok k a) (ha : a.length ≤ 1000000) (h0 : a ≠ []) (hr : regB a = true) : pureCall E.P (L E) 37 [rectR.o k a] = some (.tuple ⟨[rectR.val (bndL a), .bool true]⟩) := by
  have r1 := rright2_spec k a hk ha
  rw [hr] at r1
  have hl : 0 < a.length := List.length_pos_iff.2 h0
  have la : ¬ ((a.length : Int) = 0) := by omega
  have hla : ¬ (a.length = 0) := by omega
  obtain ⟨r0, t0, ea⟩ : ∃ r t, a = r :: t := by
    cases a with
    | nil => exact absurd rfl h0
    | cons r t => exact ⟨r, t, rfl⟩
  have e0 : a[0] = r0 := by simp [ea]
  have ix0 : indexAddrT (.sl 39 ⟨some true, some 4⟩) (rectR.o k a) (.int .i64 0) = some (cptr (rectR.val a[0])) := Rec.o_index (R := rectR) (i := 0) (kk := .i64) rfl hk hl
  rw [e0, rect_val] at ix0
  have eb : bndL a = (a.drop 1).foldl bj r0 := by rw [ea]; rfl
  rw [eb, pureCall_fn F37 rfl]
  simp -implicitDefEqProofs [r37, p37, Rec.o_len hk, hla, ret0 m21, Rec.o_reify, r1, ix0]
  rw [LL_rec (α := Nat × Rect) (1, r0) (fun c => [(5, .int .i64 (c.1 : Int))]) (fun c => [boxO ⟨0, 0, 0, 0⟩, boxO c.2])
    (fun c => (.exit 0, [(5, undef)], [boxO ⟨0, 0, 0, 0⟩, boxO ((a.drop c.1).foldl bj c.2)])) (fun c => 1 ≤ c.1 ∧ c.1 ≤ a.length) (fun c => a.length - c.1)]
  · simp -implicitDefEqProofs [k37_5, boxO, rect_val]
  · exact ⟨Nat.le_refl _, hl⟩
  · simp -implicitDefEqProofs [k37_5]
  · rfl
  · intro nx c hc ih
    obtain ⟨i, b⟩ := c
    obtain ⟨h1, h2⟩ := hc
    simp only at h1 h2
    by_cases hi : i < a.length
    · have hi' : (i : Int) < (a.length : Int) := by omega
      have ixi := Rec.o_index (R := rectR) (t := 39) (kk := .i64) (s := 4) rfl hk hi
      rw [rect_val] at ixi
      have ih := ih (i + 1, bj b a[i]) (by show a.length - (i + 1) < a.length - i; omega) ⟨by show 1 ≤ i + 1; omega, by show i + 1 ≤ a.length; omega⟩
      have wi : IntKind.i64.wrap ((i : Int) + 1) = (i : Int) + 1 := wrap64 (by omega) (by omega)
      rw [List.drop_eq_getElem_cons hi, List.foldl_cons]
      generalize a[i] = r at *
      generalize (a.drop (i + 1)).foldl bj (bj b r) = z at *
      unfold boxO at ih ⊢
      simp -implicitDefEqProofs [k37_5, bj] at ih
      simp -implicitDefEqProofs [r37_5, k37_5, hi', Rec.o_len hk, ixi, min_int, max_int, b4_all, wi, trim_le]
      exact ih
    · have e : a.drop i = [] := List.drop_of_length_le (by omega)
      have hi' : ¬ ((i : Int) < (a.length : Int)) := by omega
      rw [e]
      simp -implicitDefEqProofs [r37_5, k37_5, hi', Rec.o_len hk, trim_le]
theorem bounds_nil (k : Option Bool) (hk : Rec.Ok k ([] : List Rect)) : pureCall E.P (L E) 37 [rectR.o k []] = some (.tuple ⟨[rectR.val ⟨0, 0, 0, 0⟩, .bool false]⟩) := by
  rw [pureCall_fn F37 rfl]
  simp -implicitDefEqProofs [r37, p37, Rec.o_len hk, b4_none, rect_val]

/-! ### Gaps, and what is near -/
set_option maxHeartbeats 1000000 in
theorem gap8 (k m : Option Bool) (a b : List Rect) (hk : Rec.Ok k a) (hm : Rec.Ok m b) (ha : a.length ≤ 1000000) (hb : b.length ≤ 1000000) : pureCall E.P (L E) 16 [rectR.o k a, rectR.o m b] = some (.tuple ⟨[.int .i64 (gapX a b).1, .bool (gapX a b).2]⟩) := by
  have r1 := rright2_spec k a hk ha
  have r2 := rright2_spec m b hm hb
  rw [pureCall_fn F16 rfl]
  unfold gapX gapOk
  by_cases ea : a = []
  · subst ea
    simp -implicitDefEqProofs [r16, p16, Rec.o_len hk]
  have la : ¬ ((a.length : Int) = 0) := by have := List.length_pos_iff.2 ea; omega
  by_cases eb : b = []
  · subst eb
    simp -implicitDefEqProofs [r16, p16, Rec.o_len hk, Rec.o_len hm, ea]
  have lb : ¬ ((b.length : Int) = 0) := by have := List.length_pos_iff.2 eb; omega
  cases ga : regB a
  · rw [ga] at r1
    simp -implicitDefEqProofs [r16, p16, Rec.o_len hk, Rec.o_len hm, ea, eb, ret0 m21, Rec.o_reify, r1]
  cases gb : regB b
  · rw [ga] at r1
    rw [gb] at r2
    simp -implicitDefEqProofs [r16, p16, Rec.o_len hk, Rec.o_len hm, ea, eb, ret0 m21, Rec.o_reify, r1, r2]
  rw [ga] at r1
  rw [gb] at r2
  have oka := List.all_eq_true.1 (regB_iff.1 ga).1
  have okb := List.all_eq_true.1 (regB_iff.1 gb).1
  simp -implicitDefEqProofs [r16, p16, Rec.o_len hk, Rec.o_len hm, ea, eb, ret0 m21, Rec.o_reify, r1, r2]
  rw [LL_for (γ := Int) a 1048576 (fun i z => [(6, .int .i64 z), (7, .int .i64 i)]) (fun _ _ => []) (fun _ rest z => (.exit 0, [(6, .int .i64 (gapL z rest b)), (7, undef)], [])) (fun _ _ => True) (by omega) trivial]
  · simp -implicitDefEqProofs [k16_5]
  · simp -implicitDefEqProofs [k16_5]
  · rfl
  · intro nx i z hi _
    simp -implicitDefEqProofs [r16_5, k16_5, hi, Rec.o_len hk, trim_le, gapL]
  · intro nx i r rest z hi hv hd hw _ ih
    have ixi := Rec.o_index (R := rectR) (t := 39) (kk := .i64) (s := 4) rfl hk hi
    rw [hv, rect_val] at ixi
    have hr : okR r = true := oka r (by rw [← hv]; exact List.getElem_mem hi)
    have ih := ih (gapS r z b) trivial
    have el : gapL z (r :: rest) b = gapL (gapS r z b) rest b := rfl
    rw [el]
    simp -implicitDefEqProofs [k16_5] at ih
    simp -implicitDefEqProofs [r16_5, k16_5, hi, Rec.o_len hk]
    rw [LL_for (γ := Int) b z (fun i z => [(6, .int .i64 z), (8, .int .i64 i)]) (fun _ _ => []) (fun _ rest z => (.exit 2, [(6, .int .i64 (gapS r z rest)), (8, undef)], [])) (fun _ _ => True) (by omega) trivial]
    · simp -implicitDefEqProofs [k16_8, hw, trim_le]
      exact ih
    · simp -implicitDefEqProofs [k16_8]
    · rfl
    · intro nx j z hj _
      simp -implicitDefEqProofs [r16_8, k16_8, hj, Rec.o_len hm, trim_le, gapS]
    · intro nx j s rest' z hj hv' hd' hw' _ ih
      have ixj := Rec.o_index (R := rectR) (t := 39) (kk := .i64) (s := 4) rfl hm hj
      rw [hv', rect_val] at ixj
      have hs : okR s = true := okb s (by rw [← hv']; exact List.getElem_mem hj)
      have gg := gap5 r s hr hs
      have ih := ih (min z (gapR r s)) trivial
      have el : gapS r z (s :: rest') = gapS r (min z (gapR r s)) rest' := rfl
      rw [el]
      simp -implicitDefEqProofs [k16_8] at ih
      simp -implicitDefEqProofs [r16_8, k16_8, ixi, hj, ixj, Rec.o_len hm, ret0 m41, gg, min_int, hw', trim_le]
      exact ih
set_option maxHeartbeats 1000000 in
theorem within8 (k : Option Bool) (x : Bool) (a : List Rect) (P : List (Option Bool × List Rect)) (d : Int) (hk : Rec.Ok k a) (hP : ∀ p ∈ P, Rec.Ok p.1 p.2 ∧ p.2.length ≤ 1000000) (ha : a.length ≤ 1000000) (hl : P.length ≤ 1000000) :
    pureCall E.P (L E) 20 [rectR.o k a, lst x (rL P), .int .i64 d] = some (iT (nearL a d 0 (pL P))) := by
  rw [pureCall_fn F20 rfl]
  simp -implicitDefEqProofs [r20, p20, prep_new, newK_nil s3, -List.map_map]
  rw [LL_for (γ := List Int) P [] (fun i c => [(7, intR.sl 0 c), (8, .int .i64 i)]) (fun _ c => [intR.row 3 c])
    (fun i rest c => (.exit 0, [(7, intR.sl 0 (c ++ nearL a d i (pL rest))), (8, undef)], [intR.row 3 (c ++ nearL a d i (pL rest))])) (fun i c => c.length ≤ i) (by omega) (Nat.le_refl _)]
  · have rr := int_reifyR (h := [intR.row 3 (nearL a d 0 (pL P))]) (b := 0) (l := nearL a d 0 (pL P)) rfl
    rw [List.nil_append]
    simp -implicitDefEqProofs [k20_3, rr]
  · simp -implicitDefEqProofs [k20_3, Rec.sl_nil]
  · rfl
  · intro nx i c hi _
    simp -implicitDefEqProofs [r20_3, k20_3, hi, trim_le, nearL]
  · intro nx i p rest c hi hv hd hw hc ih
    have ixi := rL_index (x := x) i hi
    rw [hv] at ixi
    obtain ⟨hp1, hp2⟩ := hP p (by rw [← hv]; exact List.getElem_mem hi)
    have gg := gap8 k p.1 a p.2 hk hp1 ha hp2
    have en : nearL a d i (pL (p :: rest)) = (if nearB a d p.2 then [(i : Int)] else []) ++ nearL a d (i + 1) (pL rest) := rfl
    rw [en]
    have ap := app_num (h := [intR.row 3 c]) (b := 0) (lo := 0) (c := c) (i : Int) rfl (Nat.le_refl _) (by omega)
    unfold nearB
    generalize gapX a p.2 = g at gg ⊢
    obtain ⟨n, q⟩ := g
    simp only at gg ⊢
    cases q
    · have ih := ih c (by omega)
      simp -implicitDefEqProofs [k20_3] at ih
      simp -implicitDefEqProofs [r20_3, k20_3, hi, ixi, Rec.o_fits, ret0 m16, Rec.o_reify, gg, hw, trim_le]
      exact ih
    · by_cases hn : n ≤ d
      · have ih := ih (c ++ [(i : Int)]) (by simp; omega)
        rw [if_pos (by simp [hn]), ← List.append_assoc]
        simp -implicitDefEqProofs [k20_3, -List.append_assoc] at ih
        simp -implicitDefEqProofs [r20_3, k20_3, hi, ixi, Rec.o_fits, ret0 m16, Rec.o_reify, gg, hn, lit_num, ap, hw, trim_le, -List.append_assoc]
        exact ih
      · have ih := ih c (by omega)
        rw [if_neg (by simp [hn])]
        simp -implicitDefEqProofs [k20_3] at ih
        simp -implicitDefEqProofs [r20_3, k20_3, hi, ixi, Rec.o_fits, ret0 m16, Rec.o_reify, gg, hn, hw, trim_le]
        exact ih
end Go.Proofs.Ythnkmmbkdbdefaa.Bm

namespace Go.Proofs.Ythnkmmbkdbdefaa.Bm
open Go Go.RowKit
open Rg (Rect cell growL growR gapR)

set_option maxHeartbeats 1000000 in
theorem grow8 (k : Option Bool) (a : List Rect) (d : Int) (hk : Rec.Ok k a) (ha : a.length ≤ 1000000) : pureCall E.P (L E) 12 [rectR.o k a, .int .i64 d] = some (resL (growX a d)) := by
  have hv := valid8 k a d hk ha
  rw [pureCall_fn F12 rfl]
  unfold growX
  cases h0 : validB a d
  · simp -implicitDefEqProofs [r12, p12, ret0 m29, Rec.o_reify, hv, h0, resL]
  have hvb := h0
  unfold validB at hvb
  simp only [Bool.and_eq_true, decide_eq_true_eq] at hvb
  obtain ⟨⟨h1, h2⟩, h3⟩ := hvb
  obtain ⟨g1, g2, _⟩ := regB_iff.1 h3
  have hok : ∀ r ∈ a, okR r = true := List.all_eq_true.1 g1
  simp -implicitDefEqProofs [r12, p12, ret0 m29, Rec.o_reify, hv, h0, prep_new, newK_nil s32]
  rw [LL_for (γ := List Rect) a [] (fun i c => [(6, rectR.sl 0 c), (7, .int .i64 i)]) (fun _ c => [rectR.row 39 c])
    (fun _ rest c => (.exit 0, [(6, rectR.sl 0 (c ++ growL d rest)), (7, undef)], [rectR.row 39 (c ++ growL d rest)])) (fun i c => c.length = i) (by omega) rfl]
  · rw [List.nil_append]
    have fz := Rec.freeze_row (R := rectR) (P := E.P) (h := [rectR.row 39 (growL d a)]) (lo := 0) (b := 0) (t := 39) (l := growL d a) rfl s32 a32 (Nat.le_refl _)
    generalize (if (growL d a).length = 0 then _ else _) = fh at fz
    have ho := rof_spec (some false) (growL d a) Rec.ok_some (by rw [growL_len]; omega)
    have so : settled depth (rectR.o (some false) (growL d a)) = true := Rec.o_set
    rw [show rectR.o (some false) (growL d a) = lst false (rectR.vals (growL d a)) from rfl] at ho so
    cases hx : ofR (growL d a) with
    | error e =>
      rw [hx] at ho
      simp only [resL] at ho
      simp -implicitDefEqProofs [k12_5, prep_frz, fz, ret1 m31, so, ho, resL]
    | ok m =>
      rw [hx] at ho
      simp only [resL] at ho
      simp -implicitDefEqProofs [k12_5, prep_frz, fz, ret1 m31, so, ho, resL]
  · simp -implicitDefEqProofs [k12_5, Rec.sl_nil]
  · rfl
  · intro nx i c hi _
    simp -implicitDefEqProofs [r12_5, k12_5, hi, Rec.o_len hk, trim_le, growL]
  · intro nx i r rest c hi hv hd hw hc ih
    have ixi := Rec.o_index (R := rectR) (t := 39) (kk := .i64) (s := 4) rfl hk hi
    rw [hv, rect_val] at ixi
    have gr := grow5 r d (hok r (by rw [← hv]; exact List.getElem_mem hi)) h1 h2
    have ap := fun q => app_rect (h := [rectR.row 39 c, q]) (b := 0) (lo := 0) (c := c) (growR d r) rfl (Nat.le_refl _) (by omega)
    have ih := ih (c ++ [growR d r]) (by simp; omega)
    have eg : growL d (r :: rest) = [growR d r] ++ growL d rest := rfl
    rw [eg, ← List.append_assoc]
    generalize growR d r = g at *
    simp only [rect_val] at gr
    simp -implicitDefEqProofs [k12_5, -List.append_assoc] at ih
    simp -implicitDefEqProofs [r12_5, k12_5, hi, ixi, Rec.o_len hk, ret0 m30, gr, lit_rect, ap, hw, trim_cut, Rec.sl_bel, Rec.row_bel, Rec.o_bel, -List.append_assoc]
    exact ih

/-- A result as list and number: a list that may be absent. -/
def Res8 (v : Value) (r : Except Int (List Rect)) : Prop := ∃ k, Rec.Ok k (lR r) ∧ v = .tuple ⟨[rectR.o k (lR r), .int .i64 (eR r)]⟩
set_option maxHeartbeats 2000000 in
theorem shrink8 (k : Option Bool) (a : List Rect) (d : Int) (hk : Rec.Ok k a) (ha : a.length ≤ 24) : ∃ v, pureCall E.P (L E) 14 [rectR.o k a, .int .i64 d] = some v ∧ Res8 v (shrinkX a d) := by
  have hv := valid8 k a d hk (by omega)
  have on : ∀ l, rectR.o none l = .slice none 0 0 := fun _ => rfl
  rw [pureCall_fn F14 rfl]
  cases h0 : validB a d
  · refine ⟨.tuple ⟨[rectR.o none [], .int .i64 1]⟩, ?_, none, ?_⟩
    · simp -implicitDefEqProofs [r14, p14, ret0 m29, Rec.o_reify, hv, h0, on]
    · have e : shrinkX a d = .error 1 := by unfold shrinkX; rw [if_neg (by rw [h0]; decide)]
      rw [e]; exact ⟨fun _ => rfl, rfl⟩
  have hvb := h0
  unfold validB at hvb
  simp only [Bool.and_eq_true, decide_eq_true_eq] at hvb
  obtain ⟨⟨h1, h2⟩, h3⟩ := hvb
  by_cases ea : a = []
  · subst ea
    have bn := bounds_nil k hk
    refine ⟨.tuple ⟨[rectR.o none [], .int .i64 0]⟩, ?_, none, ?_⟩
    · simp only [rect_val] at bn
      simp -implicitDefEqProofs [r14, p14, ret0 m29, Rec.o_reify, hv, h0, ret0 m37, bn, on]
    · rw [shrinkX_nil h1 h2]; exact ⟨fun _ => rfl, rfl⟩
  have bs := bounds_spec k a hk (by omega) ea h3
  have hbb := bnd_box ea (reg_box h3)
  have sk := shrink5 (bndL a) d (okR_iff.2 hbb) h1 h2
  simp only [rect_val] at bs
  have eX : shrinkX a d = if 200 < (shrinkF d a).length then .error 6 else .ok (shrinkF d a) := by unfold shrinkX; rw [if_pos h0]
  cases hs : okR (shrR d (bndL a))
  · rw [hs] at sk
    simp only [rect_val, Bool.false_eq_true, if_false] at sk
    refine ⟨.tuple ⟨[rectR.o none [], .int .i64 0]⟩, ?_, none, ?_⟩
    · simp -implicitDefEqProofs [r14, p14, ret0 m29, Rec.o_reify, hv, h0, ret0 m37, bs, ret0 m38, sk, on]
    · rw [eX, shrinkF_small h3 h1 h2 ea hs]; exact ⟨fun _ => rfl, rfl⟩
  rw [hs] at sk
  simp only [rect_val, if_true] at sk
  have hsb := okR_iff.1 hs
  obtain ⟨hf, hc, hbx⟩ := holes_ok h3 ea
  have hln := holes_len h3 ea ha
  have esh := shrink_holes h3 h1 h2 ea hs
  have f1 := form_spec2 (some true) k [bndL a] a 2 subF (.inr (.inr ⟨rfl, rfl⟩)) Rec.ok_some hk (by show 1 + _ ≤ 1000; omega) (one_y hbb) (reg_y h3) [boxO (bndL a), boxO (shrR d (bndL a))] 0 (Nat.zero_le _)
  have gy : ∀ r ∈ growL d (holesL a), r.y0 < r.y1 := fun r hr => by
    have := Rg.growL_box h1 hbx r hr
    unfold Rect.inBox at this; omega
  have f2 := form_spec2 (some true) (some false) [shrR d (bndL a)] (growL d (holesL a)) 2 subF (.inr (.inr ⟨rfl, rfl⟩)) Rec.ok_some Rec.ok_some (by rw [growL_len]; show 1 + _ ≤ 1000; omega) (one_y hsb) gy
  rw [esh] at f2
  have eh : refL subF [bndL a] a = holesL a := rfl
  rw [eh] at f1
  have hokr : ∀ r ∈ holesL a, okR r = true := fun r hr => okR_iff.2 (hbx r hr)
  clear hc hf gy esh eh hbx
  generalize holesL a = H at *
  generalize hSF : shrinkF d a = SF at *
  generalize hB : bndL a = B at *
  generalize hSR : shrR d B = S at *
  have o1 : ∀ r : Rect, rectR.o (some true) [r] = lst true [.agg ⟨[.int .i64 r.x0, .int .i64 r.y0, .int .i64 r.x1, .int .i64 r.y1]⟩] := fun _ => rfl
  have o2 : ∀ l : List Rect, rectR.o (some false) l = lst false (rectR.vals l) := fun _ => rfl
  rw [o1] at f1 f2
  unfold boxO at f1
  refine ⟨.tuple ⟨[rectR.o (if 200 < SF.length then none else some false) (if 200 < SF.length then [] else SF), .int .i64 (if 200 < SF.length then 6 else 0)]⟩, ?_, if 200 < SF.length then none else some false, ?_⟩
  · simp -implicitDefEqProofs [r14, p14, ret0 m29, Rec.o_reify, hv, h0, ret0 m37, bs, ret0 m38, sk, lit_rect, f1]
    have esl : ∀ l : List Rect, l.length = H.length → rectR.sl 2 l = rectR.sl 2 H := fun l hl => rect_sl hl
    have fz : ∃ q, freezeV E.P depth 0 [boxO B, boxO S, rectR.row 39 (growL d H)] (rectR.sl 2 H) = some (lst false (rectR.vals (growL d H)), [boxO B, boxO S, q]) := by
      have f := Rec.freeze_row (R := rectR) (P := E.P) (h := [boxO B, boxO S, rectR.row 39 (growL d H)]) (lo := 0) (b := 2) (t := 39) (l := growL d H) rfl s32 a32 (Nat.zero_le _)
      rw [esl _ (growL_len _ _)] at f
      by_cases hz : (growL d H).length = 0
      · rw [if_pos hz] at f; exact ⟨_, f⟩
      · rw [if_neg hz] at f; exact ⟨_, f⟩
    obtain ⟨q, fz⟩ := fz
    have f3 := f2 [boxO B, boxO S, q] 0 (Nat.zero_le _)
    have rr := Rec.reify_row (R := rectR) (P := E.P) (h := [boxO B, boxO S, q, rectR.row 39 SF]) (b := 3) (n := 7) (t := 39) (l := SF) rfl s32 a32
    rw [o2] at f3
    have hst := fun (i : Nat) (hi : i < H.length) => store_row (R := rectR) (n := 4) (h := [boxO B, boxO S, rectR.row 39 (growL d (H.take i) ++ H.drop i)]) (b := 2) (lo := 0) (t := 39) (l := growL d (H.take i) ++ H.drop i) (i := i) (a := growR d H[i]) rfl rfl (Nat.zero_le _) (by rw [List.length_append, growL_len, List.length_take, List.length_drop]; omega)
    have hld := fun (i : Nat) (hi : i < H.length) => Rec.load_row (R := rectR) (n := 4) (h := [boxO B, boxO S, rectR.row 39 (growL d (H.take i) ++ H.drop i)]) (b := 2) (t := 39) (l := growL d (H.take i) ++ H.drop i) (i := i) rfl rfl (by rw [List.length_append, growL_len, List.length_take, List.length_drop]; omega)
    have hix := fun (i : Nat) (hi : i < H.length) => Rec.index_row (R := rectR) (h0 := 4) (t := 39) (g := some true) (b := 2) (l := H) (i := i) (k := .i64) rfl hi
    have hat : ∀ i, rectR.at_ 2 (growL d (H.take i) ++ H.drop i) i 0 = rectR.at_ 2 H i 0 := fun i => by
      unfold Rec.at_
      rw [List.length_append, growL_len, ← List.length_append, List.take_append_drop]
    unfold boxO at fz f3 rr hst hld
    rw [LL_rec (α := Nat) 0 (fun i => [(11, .int .i64 (i : Int))]) (fun i => [boxO B, boxO S, rectR.row 39 (growL d (H.take i) ++ H.drop i)])
      (fun _ => (.exit 0, [(11, undef)], [boxO B, boxO S, rectR.row 39 (growL d H)])) (fun i => i ≤ H.length) (fun i => H.length - i)]
    · unfold boxO
      by_cases h200 : 200 < SF.length
      · have h200' : 200 < (SF.length : Int) := by omega
        simp -implicitDefEqProofs [k14_11, prep_frz, fz, lit_rect, f3, Rec.sl_len, h200, h200', on]
      · have h200' : ¬ (200 < (SF.length : Int)) := by omega
        simp -implicitDefEqProofs [k14_11, prep_frz, fz, lit_rect, f3, Rec.sl_len, h200, h200', rr, o2]
    · exact Nat.zero_le _
    · simp -implicitDefEqProofs [k14_11]
    · rfl
    · intro nx i hi ih
      by_cases hi2 : i < H.length
      · have hi' : (i : Int) < (H.length : Int) := by omega
        have wi : IntKind.i64.wrap ((i : Int) + 1) = (i : Int) + 1 := wrap64 (by have := hln; omega) (by have := hln; omega)
        have ih := ih (i + 1) (by omega) (by omega)
        have eg : (growL d (H.take i) ++ H.drop i)[i]'(by rw [List.length_append, growL_len, List.length_take, List.length_drop]; omega) = H[i] := by
          rw [List.getElem_append_right (by rw [growL_len, List.length_take]; omega)]
          simp [growL_len, List.length_take, Nat.min_eq_left (show i ≤ H.length by omega)]
        have es : (growL d (H.take i) ++ H.drop i).set i (growR d H[i]) = growL d (H.take (i + 1)) ++ H.drop (i + 1) := by
          rw [List.set_append_right _ _ (by rw [growL_len, List.length_take]; omega), growL_len, List.length_take, Nat.min_eq_left (by omega), Nat.sub_self, List.drop_eq_getElem_cons hi2, List.set_cons_zero, List.take_succ_eq_append_getElem hi2]
          unfold growL
          rw [List.map_append, List.append_assoc]; rfl
        have st := hst i hi2
        have ld := hld i hi2
        have ix := hix i hi2
        rw [es, hat] at st
        rw [eg, hat, rect_val] at ld
        clear eg es hst hld hat
        have g5 := grow5 H[i] d (hokr _ (List.getElem_mem hi2)) h1 h2
        generalize growL d (H.take i) ++ H.drop i = H0 at *
        generalize growL d (H.take (i + 1)) ++ H.drop (i + 1) = H1 at *
        generalize growR d H[i] = g at *
        simp only [rect_val] at g5 st
        unfold boxO at ih ⊢
        simp -implicitDefEqProofs [k14_11] at ih
        simp -implicitDefEqProofs [r14_11, k14_11, Rec.sl_len, hi', ix, ld, ret0 m30, g5, st, wi, trim_le]
        exact ih
      · have e : i = H.length := by omega
        subst e
        rw [List.take_length, List.drop_length, List.append_nil]
        have hi' : ¬ ((H.length : Int) < (H.length : Int)) := by omega
        simp -implicitDefEqProofs [r14_11, k14_11, Rec.sl_len, hi', trim_le]
  · rw [eX]
    split
    · exact ⟨fun _ => rfl, rfl⟩
    · exact ⟨Rec.ok_some, rfl⟩
end Go.Proofs.Ythnkmmbkdbdefaa.Bm

namespace Go.Proofs.Ythnkmmbkdbdefaa.Bm
open Go Go.RowKit
open Rg (Rect cell growL growR gapR)

def fewL (B : List (List Rect)) : Bool := B.all fun b => decide (b.length ≤ 24)
theorem grow8_o (k : Option Bool) (a : List Rect) (d : Int) (hk : Rec.Ok k a) (ha : a.length ≤ 1000000) : pureCall E.P (L E) 12 [rectR.o k a, .int .i64 d] = some (.tuple ⟨[rectR.o (kR (growX a d)) (lR (growX a d)), .int .i64 (eR (growX a d))]⟩) := by
  rw [← resL_eq]; exact grow8 k a d hk ha
set_option maxHeartbeats 2000000 in
theorem tells_spec (a b : List Rect) (B : List (List Rect)) (d : Int) : ∃ h', L E 3 [lst false (rectR.vals a), lst false (rectR.vals b), lst false (B.map fun l => lst false (rectR.vals l)), .int .i64 d] [] 0 = some (.bool true, h') := by
  refine ⟨[], ?_⟩
  have sm := small_spec
  have fa := few_spec (some false) a Rec.ok_some
  have fb := few_spec (some false) b Rec.ok_some
  have hfl : (fL B).length = B.length := List.length_map _
  rw [o_lst, o_lst, fL_eq, L_fn F3 rfl]
  have len1 := fun h => rL_len (h := h) (x := false) (P := fL B)
  have ixL := fun i hi => rL_index (x := false) (P := fL B) i hi
  have wiL := fun hP ha hl => within_spec (some false) false a (fL B) d Rec.ok_some hP ha hl
  have wiR := fun hP ha hl => within8 (some false) false a (fL B) d Rec.ok_some hP ha hl
  have seL := fL_set B
  rw [hfl] at len1
  generalize lst false (rL (fL B)) = VL at len1 ixL wiL wiR seL ⊢
  by_cases h1 : a.length ≤ 24
  case neg => simp -implicitDefEqProofs [r3, p3, ret0 m9, sm, ret0 m10, Rec.o_reify, fa, h1]
  by_cases h2 : b.length ≤ 24
  case neg => simp -implicitDefEqProofs [r3, p3, ret0 m9, sm, ret0 m10, Rec.o_reify, fa, fb, h1, h2]
  by_cases h3 : B.length ≤ 8
  case neg =>
    have h3' : 8 < (B.length : Int) := by omega
    simp -implicitDefEqProofs [r3, p3, ret0 m9, sm, ret0 m10, Rec.o_reify, fa, fb, h1, h2, len1, h3']
  have h3' : ¬ (8 < (B.length : Int)) := by omega
  simp -implicitDefEqProofs [r3, p3, ret0 m9, sm, ret0 m10, Rec.o_reify, fa, fb, h1, h2, len1, h3']
  rw [LL_for (γ := Unit) B () (fun i _ => [(10, .int .i64 i)]) (fun _ _ => []) (fun _ rest _ => if fewL rest then (.exit 0, [(10, undef)], []) else (.ret, [(8, .bool true), (10, undef)], [])) (fun _ _ => True) (by omega) trivial]
  · cases hf : fewL B
    · simp -implicitDefEqProofs [k3_5]
    · have hP : ∀ p ∈ fL B, Rec.Ok p.1 p.2 ∧ p.2.length ≤ 1000000 := fun p hp => by
        obtain ⟨c, hc, rfl⟩ := List.mem_map.1 hp
        have := List.all_eq_true.1 hf c hc
        rw [decide_eq_true_eq] at this
        exact ⟨Rec.ok_some, by show c.length ≤ 1000000; omega⟩
      have c1 := grow_o (some false) a d Rec.ok_some (by omega)
      have c2 := grow8_o (some false) a d Rec.ok_some (by omega)
      have c3 := shrink_o (some false) a d Rec.ok_some (by omega)
      obtain ⟨v, c4, k8, hk8, ev⟩ := shrink8 (some false) a d Rec.ok_some h1
      subst ev
      have c5 := gap_spec (some false) (some false) a b Rec.ok_some Rec.ok_some (by omega) (by omega)
      have c6 := gap8 (some false) (some false) a b Rec.ok_some Rec.ok_some (by omega) (by omega)
      have lx := any_len (grow_any a d)
      have lu := any_len (shrink_any a d)
      have s1 := same_rects _ _ _ _ (kR_ok (growX a d)) (kR_ok (growX a d)) (by omega)
      have s2 := same_rects _ _ _ _ (kR_ok (shrinkX a d)) hk8 (by omega)
      rw [decide_eq_true rfl] at s1 s2
      have w1 := wiL hP (by omega) (by omega)
      have w2 := wiR hP (by omega) (by omega)
      have ln := nearL_len a d (pL (fL B)) 0
      rw [fL_pL] at w1 w2 ln
      generalize nearL a d 0 B = g at *
      have ii := law_ints g g (by omega)
      rw [decide_eq_true rfl] at ii
      clear lx lu
      generalize growX a d = X at *
      generalize shrinkX a d = U at *
      generalize gapX a b = G at *
      obtain ⟨n, q⟩ := G
      simp only at c5 c6
      simp -implicitDefEqProofs [k3_5, ret1 m11, ret1 m13, ret1 m12, ret1 m14, set_o, set_i, c1, c2, c3, c4, ret0 m15, ret0 m16, Rec.o_reify, c5, c6, ret0 m17, s1, s2, ret1 m19, ret1 m20, seL, w1, w2, ret0 m18, iT_reify, ii, beq]
  · simp -implicitDefEqProofs [k3_5]
  · rfl
  · intro nx i c hi _
    simp -implicitDefEqProofs [r3_5, k3_5, hi, len1, trim_le, fewL]
  · intro nx i c rest u hi hv hd hw _ ih
    have hi2 : i < (fL B).length := by omega
    have ixi := ixL i hi2
    have eb : (fL B)[i] = (some false, c) := by simp [fL, hv]
    rw [eb] at ixi
    simp only at ixi
    have fc := few_spec (some false) c Rec.ok_some
    have ih := ih () trivial
    have ef : fewL (c :: rest) = (decide (c.length ≤ 24) && fewL rest) := rfl
    rw [ef]
    generalize fewL rest = qa at ih ⊢
    simp -implicitDefEqProofs [k3_5] at ih
    by_cases hb : c.length ≤ 24
    · simp -implicitDefEqProofs [r3_5, k3_5, hi, len1, ixi, Rec.o_fits, ret0 m10, Rec.o_reify, fc, hb, hw, trim_le]
      exact ih
    · simp -implicitDefEqProofs [r3_5, k3_5, hi, len1, ixi, Rec.o_fits, ret0 m10, Rec.o_reify, fc, hb, trim_le]
end Go.Proofs.Ythnkmmbkdbdefaa.Bm
