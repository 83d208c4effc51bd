/-
  Chapter 06: the statement on regions that are moved, walked. Conditions: none.
-/
import Derived.Test.YteaoeebakmdcnaaQS21
import Derived.Test.YteaoeebakmdcnaaQS14
import Derived.Test.YteaoeebakmdcnaaQS22
namespace Go.Proofs.Yteaoeebakmdcnaa.Rg

/-- A rectangle moved. -/
def shR (dx dy : Int) (r : Rect) : Rect := ⟨r.x0 + dx, r.y0 + dy, r.x1 + dx, r.y1 + dy⟩
def shS (dx dy : Int) (s : Slab) : Slab := ⟨s.x0 + dx, s.x1 + dx, s.col.map fun c => (c.1 + dy, c.2 + dy)⟩
theorem touch_sh {dx dy : Int} (r s : Rect) : touchB (shR dx dy r) (shR dx dy s) = touchB r s := by
  have e1 : gapX (shR dx dy r) (shR dx dy s) = gapX r s := by unfold gapX shR; simp only; omega
  have e2 : gapY (shR dx dy r) (shR dx dy s) = gapY r s := by unfold gapY shR; simp only; omega
  unfold touchB
  rw [e1, e2]
theorem parts_sh (dx dy : Int) (a : List Rect) : (partsL (a.map (shR dx dy))).length = (partsL a).length := by
  rw [partsL_map touch_sh, List.length_map]
theorem area_sh (dx dy : Int) : ∀ a : List Rect, areaL (a.map (shR dx dy)) = areaL a
  | [] => rfl
  | r :: a => by
    show (shR dx dy r).area + areaL (a.map (shR dx dy)) = r.area + areaL a
    have e1 : r.x1 + dx - (r.x0 + dx) = r.x1 - r.x0 := by omega
    have e2 : r.y1 + dy - (r.y0 + dy) = r.y1 - r.y0 := by omega
    rw [area_sh dx dy a]
    unfold Rect.area shR
    simp only
    rw [e1, e2]
theorem cell_sh (dx dy x y : Int) : ∀ a : List Rect, cell (a.map (shR dx dy)) x y = cell a (x - dx) (y - dy)
  | [] => rfl
  | r :: a => by
    show ((shR dx dy r).has x y || cell (a.map (shR dx dy)) x y) = (r.has (x - dx) (y - dy) || cell a (x - dx) (y - dy))
    rw [cell_sh dx dy x y a]
    have e : (shR dx dy r).has x y = r.has (x - dx) (y - dy) := by
      unfold Rect.has shR
      simp only
      congr 1 <;> congr 1 <;> rw [decide_eq_decide] <;> omega
    rw [e]
theorem canS_sh (d : Int) : ∀ (c : List (Int × Int)) (b : Int), canS b c → canS (b + d) (c.map fun c => (c.1 + d, c.2 + d))
  | [], _, _ => trivial
  | (f, t) :: c, b, h => ⟨by have := h.1; omega, by have := h.2.1; omega, canS_sh d c t h.2.2⟩
theorem can_sh (d : Int) : ∀ (c : List (Int × Int)), Can c → Can (c.map fun c => (c.1 + d, c.2 + d))
  | [], _ => trivial
  | (f, t) :: c, h => ⟨by have := h.1; omega, canS_sh d c t h.2⟩
theorem map_sh_inj {d : Int} : ∀ {c e : List (Int × Int)}, (c.map fun c => (c.1 + d, c.2 + d)) = (e.map fun c => (c.1 + d, c.2 + d)) → c = e
  | [], [], _ => rfl
  | [], _ :: _, h => by cases h
  | _ :: _, [], h => by cases h
  | (a, b) :: c, (f, g) :: e, h => by
    rw [List.map_cons, List.map_cons, List.cons.injEq, Prod.mk.injEq] at h
    obtain ⟨⟨h1, h2⟩, h3⟩ := h
    simp only at h1 h2
    rw [map_sh_inj h3, show a = f by omega, show b = g by omega]
theorem canT_sh (dx dy : Int) : ∀ (T : List Slab) (b : Int) (c : List (Int × Int)), canT b c T → canT (b + dx) (c.map fun c => (c.1 + dy, c.2 + dy)) (T.map (shS dx dy))
  | [], _, _, _ => trivial
  | s :: T, b, c, h => by
    obtain ⟨h1, h2, h3, h4, h5, h6⟩ := h
    refine ⟨by show b + dx ≤ s.x0 + dx; omega, by show s.x0 + dx < s.x1 + dx; omega, fun e => h3 (List.map_eq_nil_iff.1 e), can_sh dy _ h4, fun e => ?_, canT_sh dx dy T s.x1 s.col h6⟩
    have e : b + dx = s.x0 + dx := e
    exact fun q => h5 (by omega) (map_sh_inj q)
theorem outT_sh (dx dy : Int) : ∀ T : List Slab, outT (T.map (shS dx dy)) = (outT T).map (shR dx dy)
  | [] => rfl
  | s :: T => by
    show emit (shS dx dy s) ++ outT (T.map (shS dx dy)) = (emit s ++ outT T).map (shR dx dy)
    rw [outT_sh dx dy T, List.map_append]
    congr 1
    unfold emit shS
    simp only
    rw [List.map_map, List.map_map]; rfl
theorem Form.sh {l : List Rect} (h : Form l) (dx dy : Int) : Form (l.map (shR dx dy)) := by
  obtain ⟨b, T, h1, rfl⟩ := h
  exact ⟨b + dx, T.map (shS dx dy), canT_sh dx dy T b [] h1, (outT_sh dx dy T).symm⟩
theorem sh_back (dx dy : Int) (a : List Rect) : (a.map (shR dx dy)).map (shR (-dx) (-dy)) = a := by
  rw [List.map_map]
  refine (List.map_congr_left fun r _ => ?_).trans (List.map_id a)
  obtain ⟨a, b, c, d⟩ := r
  show Rect.mk (a + dx + -dx) (b + dy + -dy) (c + dx + -dx) (d + dy + -dy) = _
  rw [Int.add_neg_cancel_right, Int.add_neg_cancel_right, Int.add_neg_cancel_right, Int.add_neg_cancel_right]; rfl

/-! ### Bounds -/
def bj (b r : Rect) : Rect := ⟨min b.x0 r.x0, min b.y0 r.y0, max b.x1 r.x1, max b.y1 r.y1⟩
def bndL : List Rect → Rect
  | [] => ⟨0, 0, 0, 0⟩
  | r :: l => l.foldl bj r
theorem bj_sh (dx dy : Int) (b r : Rect) : bj (shR dx dy b) (shR dx dy r) = shR dx dy (bj b r) := by
  unfold bj shR
  simp only [Rect.mk.injEq]
  omega
theorem fold_sh (dx dy : Int) : ∀ (l : List Rect) (b : Rect), (l.map (shR dx dy)).foldl bj (shR dx dy b) = shR dx dy (l.foldl bj b)
  | [], _ => rfl
  | r :: l, b => by
    rw [List.map_cons, List.foldl_cons, List.foldl_cons, bj_sh, fold_sh dx dy l]
theorem bnd_sh (dx dy : Int) : ∀ {l : List Rect}, l ≠ [] → bndL (l.map (shR dx dy)) = shR dx dy (bndL l)
  | [], h => absurd rfl h
  | r :: l, _ => fold_sh dx dy l r
theorem fold_fit (n : Int) : ∀ (l : List Rect) (b : Rect), (∀ r ∈ l, r.x0 < r.x1 ∧ r.y0 < r.y1) → b.x0 < b.x1 ∧ b.y0 < b.y1 → ((l.foldl bj b).inBox n ↔ b.inBox n ∧ ∀ r ∈ l, r.inBox n)
  | [], b, _, _ => ⟨fun h => ⟨h, fun r hr => absurd hr List.not_mem_nil⟩, fun h => h.1⟩
  | r :: l, b, hl, hb => by
    have hr := hl r (List.mem_cons_self ..)
    have e : (bj b r).inBox n ↔ b.inBox n ∧ r.inBox n := by
      unfold bj Rect.inBox
      simp only
      omega
    rw [List.foldl_cons, fold_fit n l (bj b r) (fun s hs => hl s (List.mem_cons_of_mem _ hs)) (by unfold bj; simp only; omega), e, List.forall_mem_cons, and_assoc]
/-- All fit exactly if their bounds do. -/
theorem bnd_fit {n : Int} {l : List Rect} (h0 : l ≠ []) (hl : ∀ r ∈ l, r.x0 < r.x1 ∧ r.y0 < r.y1) : (bndL l).inBox n ↔ ∀ r ∈ l, r.inBox n := by
  cases l with
  | nil => exact absurd rfl h0
  | cons r l =>
    have := fold_fit n l r (fun s hs => hl s (List.mem_cons_of_mem _ hs)) (hl r (List.mem_cons_self ..))
    rw [List.forall_mem_cons]
    exact this
end Go.Proofs.Yteaoeebakmdcnaa.Rg

namespace Go.Proofs.Yteaoeebakmdcnaa.Bm
open Go Go.RowKit

section
variable {P : Program} {t : TypeId}
end

end Go.Proofs.Yteaoeebakmdcnaa.Bm

namespace Go.Proofs.Yteaoeebakmdcnaa.Bm
open Go Go.RowKit
open Rg (Rect shR bj bndL)

/-- Moving all of a list. -/
def shiftL (dx dy : Int) (a : List Rect) : List Rect := a.map (shR dx dy)
def shiftX (a : List Rect) (dx dy : Int) : Except Int (List Rect) :=
  if regB a then (if 0 < a.length ∧ (1048576 < max dx dy ∨ min dx dy < -1048576) then .error 3 else if (shiftL dx dy a).all okR then .ok (shiftL dx dy a) else .error 3) else .error 1
/-- The list while it is moved, up to one that leaves the grid. -/
def stopS (dx dy : Int) : List Rect → List Rect → Bool × List Rect
  | [], c => (true, c)
  | r :: l, c => if okR (shR dx dy r) then stopS dx dy l (c ++ [shR dx dy r]) else (false, c)
theorem stopS_eq (dx dy : Int) : ∀ (l c : List Rect), (stopS dx dy l c).1 = (shiftL dx dy l).all okR ∧ ((stopS dx dy l c).1 = true → (stopS dx dy l c).2 = c ++ shiftL dx dy l)
  | [], c => ⟨rfl, fun _ => (List.append_nil c).symm⟩
  | r :: l, c => by
    have e : (shiftL dx dy (r :: l)).all okR = (okR (shR dx dy r) && (shiftL dx dy l).all okR) := rfl
    rw [e]
    unfold stopS
    cases h : okR (shR dx dy r)
    · exact ⟨rfl, fun h => by cases h⟩
    · obtain ⟨h1, h2⟩ := stopS_eq dx dy l (c ++ [shR dx dy r])
      rw [if_pos rfl]
      refine ⟨by rw [h1]; rfl, fun h => ?_⟩
      rw [h2 h, List.append_assoc]; rfl
def stopQ (s : Bool × List Rect) : Exit × List (Nat × Value) × Heap := if s.1 then (.exit 0, [(8, rectR.sl 0 s.2), (31, undef)], [rectR.row 32 s.2]) else (.ret, [(6, .slice none 0 0), (7, .int .i64 3), (8, rectR.sl 0 s.2), (31, undef)], [rectR.row 32 s.2])
set_option maxHeartbeats 1000000 in
theorem shift_spec (k : Option Bool) (a : List Rect) (dx dy : Int) (hk : Rec.Ok k a) (ha : a.length ≤ 1000000) : pureCall E.P (L E) 12 [rectR.o k a, .int .i64 dx, .int .i64 dy] = some (resL (shiftX a dx dy)) := by
  have hR := right2_spec k a hk ha
  unfold shiftX
  rw [pureCall_fn F12 rfl]
  cases hr : regB a
  · rw [hr] at hR
    simp -implicitDefEqProofs [r12, p12, ret0 m8, Rec.o_reify, hR, resL]
  rw [hr] at hR
  have hbox : ∀ r ∈ a, r.inBox 1048576 := fun r hr' => okR_iff.1 (List.all_eq_true.1 (regB_iff.1 hr).1 r hr')
  generalize hall : (shiftL dx dy a).all okR = qa
  by_cases h0 : 0 < a.length
  · have h0' : 0 < (a.length : Int) := by omega
    by_cases h1 : 1048576 < max dx dy
    · simp -implicitDefEqProofs [r12, p12, ret0 m8, Rec.o_reify, hR, Rec.o_len hk, h0, h0', max_int, min_int6, h1, resL]
    by_cases h2 : min dx dy < -1048576
    · simp -implicitDefEqProofs [r12, p12, ret0 m8, Rec.o_reify, hR, Rec.o_len hk, h0, h0', max_int, min_int6, h1, h2, resL]
    simp -implicitDefEqProofs [r12, p12, ret0 m8, Rec.o_reify, hR, Rec.o_len hk, h0, h0', max_int, min_int6, h1, h2, prep_new, newK_nil s32]
    rw [LL_for (γ := List Rect) a [] (fun i c => [(8, rectR.sl 0 c), (31, .int .i64 i)]) (fun _ c => [rectR.row 32 c]) (fun _ rest c => stopQ (stopS dx dy rest c)) (fun i c => c.length = i) (by first | omega | decide) rfl]
    · obtain ⟨q1, q2⟩ := stopS_eq dx dy a []
      rw [hall] at q1
      rw [← q1]
      cases hs : stopS dx dy a [] with
      | mk q c =>
      rw [hs] at q1 q2
      simp only at q1 q2
      cases q
      · simp -implicitDefEqProofs [k12_7, stopQ, resL]
      · rw [List.nil_append] at q2
        have q2 := q2 rfl
        rw [q2]
        generalize shiftL dx dy a = F
        have rr := Rec.reify_row (R := rectR) (P := E.P) (h := [rectR.row 32 F]) (b := 0) (n := 7) (t := 32) (l := F) rfl s32 a32
        simp -implicitDefEqProofs [k12_7, stopQ, rr, resL]
    · simp -implicitDefEqProofs [k12_7, Rec.sl_nil]
    · rfl
    · intro nx i c hi _
      simp -implicitDefEqProofs [r12_7, k12_7, hi, Rec.o_len hk, trim_le, stopS, stopQ]
    · intro nx i r rest c hi hv hd hw hc ih
      have ixi := Rec.o_index (R := rectR) (t := 32) (kk := .i64) (s := 4) rfl hk hi
      rw [hv, rect_val] at ixi
      have hb := hbox r (by rw [← hv]; exact List.getElem_mem hi)
      unfold Rect.inBox at hb
      have w0 : IntKind.i64.wrap (r.x0 + dx) = r.x0 + dx := wrap64 (by omega) (by omega)
      have w1 : IntKind.i64.wrap (r.y0 + dy) = r.y0 + dy := wrap64 (by omega) (by omega)
      have w2 : IntKind.i64.wrap (r.x1 + dx) = r.x1 + dx := wrap64 (by omega) (by omega)
      have w3 : IntKind.i64.wrap (r.y1 + dy) = r.y1 + dy := wrap64 (by omega) (by omega)
      have rs := right_s (shR dx dy r)
      unfold stopS
      cases hok : okR (shR dx dy r)
      · rw [hok] at rs
        simp only [shR] at rs
        simp -implicitDefEqProofs [r12_7, k12_7, hi, ixi, Rec.o_len hk, w0, w1, w2, w3, b4_all, ret0 m15, rs, stopQ, trim_cut, Rec.sl_bel, Rec.row_bel, Rec.o_bel]
      · rw [hok] at rs
        have ap := fun q => app_rect (h := [rectR.row 32 c, q]) (b := 0) (lo := 0) (c := c) (shR dx dy r) rfl (Nat.le_refl _) (by omega)
        have ih := ih (c ++ [shR dx dy r]) (by simp; omega)
        rw [if_pos rfl]
        generalize stopQ (stopS dx dy rest (c ++ [shR dx dy r])) = Q at ih ⊢
        simp only [shR] at rs ap ih
        simp -implicitDefEqProofs [k12_7] at ih
        simp -implicitDefEqProofs [r12_7, k12_7, hi, ixi, Rec.o_len hk, w0, w1, w2, w3, b4_all, ret0 m15, rs, lit_rect, ap, hw, trim_cut, Rec.sl_bel, Rec.row_bel, Rec.o_bel]
        exact ih
  · have ea : a = [] := List.eq_nil_of_length_eq_zero (by omega)
    subst ea
    simp -implicitDefEqProofs [r12, p12, ret0 m8, Rec.o_reify, hR, Rec.o_len hk, prep_new, newK_nil s32]
    rw [LL_for (γ := List Rect) ([] : List Rect) [] (fun i c => [(8, rectR.sl 0 c), (31, .int .i64 i)]) (fun _ c => [rectR.row 32 c]) (fun _ rest c => stopQ (stopS dx dy rest c)) (fun i c => c.length = i) (by first | omega | decide) rfl]
    · obtain ⟨q1, q2⟩ := stopS_eq dx dy ([] : List Rect) []
      rw [hall] at q1
      rw [← q1]
      cases hs : stopS dx dy ([] : List Rect) [] with
      | mk q c =>
      rw [hs] at q1 q2
      simp only at q1 q2
      cases q
      · simp -implicitDefEqProofs [k12_7, stopQ, resL]
      · rw [List.nil_append] at q2
        have q2 := q2 rfl
        rw [q2]
        generalize shiftL dx dy ([] : List Rect) = F
        have rr := Rec.reify_row (R := rectR) (P := E.P) (h := [rectR.row 32 F]) (b := 0) (n := 7) (t := 32) (l := F) rfl s32 a32
        simp -implicitDefEqProofs [k12_7, stopQ, rr, resL]
    · simp -implicitDefEqProofs [k12_7, Rec.sl_nil]
    · rfl
    · intro nx i c hi _
      simp -implicitDefEqProofs [r12_7, k12_7, hi, Rec.o_len hk, trim_le, stopS, stopQ]
    · intro nx i r rest c hi hv hd hw hc ih
      simp at hi

/-! ### Bounds -/
def bstp (c : Bool × Rect) (r : Rect) : Bool × Rect := (true, if c.1 then bj c.2 r else r)
theorem bstp_true : ∀ (l : List Rect) (b : Rect), l.foldl bstp (true, b) = (true, l.foldl bj b)
  | [], _ => rfl
  | r :: l, b => by rw [List.foldl_cons, List.foldl_cons, ← bstp_true l]; rfl
theorem bstp_eq {l : List Rect} (h0 : l ≠ []) : l.foldl bstp (false, ⟨0, 0, 0, 0⟩) = (true, bndL l) := by
  cases l with
  | nil => exact absurd rfl h0
  | cons r l => exact bstp_true l r
set_option maxHeartbeats 1000000 in
theorem bounds5_spec (k : Option Bool) (a : List Rect) (hk : Rec.Ok k a) (ha : a.length ≤ 1000000) (h0 : a ≠ []) (hall : a.all okR = true) : pureCall E.P (L E) 25 [rectR.o k a] = some (.tuple ⟨[rectR.val (bndL a), .bool true]⟩) := by
  rw [pureCall_fn F25 rfl]
  simp -implicitDefEqProofs [r25, p25, Rec.o_len hk]
  rw [LL_for (γ := Bool × Rect) a (false, ⟨0, 0, 0, 0⟩) (fun i c => [(3, .bool c.1), (8, .int .i64 i)]) (fun _ c => [boxR c.2]) (fun _ rest c => (.exit 0, [(3, .bool (rest.foldl bstp c).1), (8, undef)], [boxR (rest.foldl bstp c).2])) (fun _ _ => True) (by omega) trivial]
  · rw [bstp_eq h0]
    simp -implicitDefEqProofs [k25_2, boxR, rect_val]
  · simp -implicitDefEqProofs [k25_2]
  · rfl
  · intro nx i c hi _
    simp -implicitDefEqProofs [r25_2, k25_2, hi, trim_le]
  · intro nx i r rest c hi hv hd hw _ ih
    have ih := ih (bstp c r) trivial
    have ixi := Rec.o_index (R := rectR) (t := 32) (kk := .i64) (s := 4) rfl hk hi
    rw [hv] at ixi
    have hr := right_s r
    have hok : okR r = true := List.all_eq_true.1 hall r (by rw [← hv]; exact List.getElem_mem hi)
    rw [hok] at hr
    rw [List.foldl_cons]
    generalize rest.foldl bstp (bstp c r) = z at *
    obtain ⟨q, b⟩ := c
    simp -implicitDefEqProofs [k25_2] at ih
    cases q
    · simp -implicitDefEqProofs [bstp, boxR] at ih
      simp -implicitDefEqProofs [r25_2, k25_2, boxR, hi, ixi, rect_val, ret0 m15, hr, hw, trim_le, trim_cut, Rec.o_bel]
      exact ih
    · simp -implicitDefEqProofs [bstp, bj, boxR] at ih
      simp -implicitDefEqProofs [r25_2, k25_2, boxR, hi, ixi, rect_val, ret0 m15, hr, hw, trim_le, trim_cut, Rec.o_bel, min_int6, max_int, b4_all]
      exact ih
theorem bounds_spec (k : Option Bool) (a : List Rect) (hk : Rec.Ok k a) (ha : a.length ≤ 1000000) (h0 : a ≠ []) (hr : regB a = true) : pureCall E.P (L E) 13 [rectR.o k a] = some (.tuple ⟨[rectR.val (bndL a), .bool true]⟩) := by
  have hR := right2_spec k a hk ha
  rw [hr] at hR
  have hn : ¬ (a.length = 0) := fun e => h0 (List.eq_nil_of_length_eq_zero e)
  have hn' : ¬ ((a.length : Int) = 0) := by omega
  have key := bounds5_spec k a hk ha h0 (regB_iff.1 hr).1
  rw [pureCall_fn F13 rfl]
  rw [rect_val] at key ⊢
  simp -implicitDefEqProofs [r13, p13, padS, b4_none, ret0 m8, ret0 m25, Rec.o_reify, hR, Rec.o_len hk, hn, hn', key]
end Go.Proofs.Yteaoeebakmdcnaa.Bm

namespace Go.Proofs.Yteaoeebakmdcnaa.Bm
open Go Go.RowKit
open Rg (Rect areaL cell opL ofL norm Det cell_det shR bndL partsL)

/-! ### Plain: what the operations answer -/
theorem box_mono {l : List Rect} {n m : Int} (h : ∀ r ∈ l, r.inBox n) (hm : n ≤ m) : ∀ r ∈ l, r.inBox m := fun r hr => by
  have := h r hr
  unfold Rect.inBox at this ⊢
  omega
theorem box_ok {l : List Rect} {n : Int} (h : ∀ r ∈ l, r.inBox n) (hn : n ≤ 1048576) : l.all okR = true := List.all_eq_true.2 fun r hr => okR_iff.2 (box_mono h hn r hr)
/-- Lists whose cells are known are regions if they are short. -/
structure Reg (l : List Rect) (S : Int → Int → Bool) : Prop where
  form : Rg.Form l
  cell : ∀ x y, cell l x y = S x y
  ok : ∀ r ∈ l, r.inBox 1048576
  len : l.length ≤ 200
theorem Reg.right {l : List Rect} {S : Int → Int → Bool} (h : Reg l S) : regB l = true := regB_iff.2 ⟨box_ok h.ok (Int.le_refl _), h.len, h.form⟩
theorem Reg.norm {l : List Rect} {S : Int → Int → Bool} (h : Reg l S) : norm S = l := Rg.norm_eq h.form h.cell
theorem of_reg {l : List Rect} (h : l.all okR = true) (hl : l.length ≤ 14) : ∃ c, ofR l = .ok c ∧ Reg c (cell l) := by
  have hy := ofL_ok' h
  have hb : ∀ r ∈ l, r.inBox 1048576 := fun r hr => okR_iff.1 (List.all_eq_true.1 h r hr)
  obtain ⟨hf, hc⟩ := Rg.ofL_ok hy
  have hlen : (ofL l).length ≤ 200 := by
    have h1 := Rg.form_bound (R := l) (fun r hr => by have := hb r hr; unfold Rect.inBox at this; omega) (cell_det l) hf hc
    have h2 : l.length * l.length ≤ 14 * 14 := Nat.mul_le_mul hl hl
    omega
  refine ⟨ofL l, ?_, hf, hc, hf.box fun x y hxy => Rg.cell_box hb (by rw [← hc]; exact hxy), hlen⟩
  unfold ofR
  rw [if_pos h, if_neg (by omega), if_pos hlen]
theorem op_reg (f : Bool → Bool → Bool) (hf : f false false = false) {a b : List Rect} {S T : Int → Int → Bool} (ha : Reg a S) (hb : Reg b T) (R : List Rect) (hR : ∀ r ∈ R, r.x0 < r.x1) (hS : Det R S) (hT : Det R T) (hl : R.length ≤ 14) :
    ∃ c, opR f a b = .ok c ∧ Reg c fun x y => f (S x y) (T x y) := by
  have pa := fun r hr => (ha.form.pos r hr).2
  have pb := fun r hr => (hb.form.pos r hr).2
  obtain ⟨h1, h2⟩ := Rg.opL_ok f hf pa pb
  have h2' : ∀ x y, cell (opL f a b) x y = f (S x y) (T x y) := fun x y => by rw [h2, ha.cell, hb.cell]
  have hlen : (opL f a b).length ≤ 200 := by
    have h3 := Rg.form_bound hR (hS.op hT f hf) h1 h2'
    have h4 : R.length * R.length ≤ 14 * 14 := Nat.mul_le_mul hl hl
    omega
  refine ⟨opL f a b, ?_, h1, h2', h1.box fun x y hxy => ?_, hlen⟩
  · unfold opR limR
    rw [ha.right, hb.right, if_pos hlen]; rfl
  · rw [h2] at hxy
    cases q1 : cell a x y
    · cases q2 : cell b x y
      · rw [q1, q2, hf] at hxy; cases hxy
      · exact Rg.cell_box hb.ok q2
    · exact Rg.cell_box ha.ok q1
/-! ### The walk -/
theorem frzL (h : Heap) (x : Bool) (l : List Rect) : frzAll E.P 0 [lst x (rectR.vals l)] h = some ([lst x (rectR.vals l)], h) := frzAll_row (frz_set8 rfl rfl)
theorem of_l (x : Bool) (l : List Rect) (hl : l.length ≤ 1000000) : pureCall E.P (L E) 6 [lst x (rectR.vals l)] = some (resL (ofR l)) := of_spec (some x) l Rec.ok_some hl
theorem minus_l (x y : Bool) (a b : List Rect) (ha : a.length ≤ 1000000) (hb : b.length ≤ 1000000) : pureCall E.P (L E) 14 [lst x (rectR.vals a), lst y (rectR.vals b)] = some (resL (opR subF a b)) := minus2_spec (some x) (some y) a b Rec.ok_some Rec.ok_some ha hb
theorem area_l (x : Bool) (l : List Rect) (hl : l.length ≤ 1000000) : pureCall E.P (L E) 11 [lst x (rectR.vals l)] = some (.int .i64 (if regB l then areaL l else 0)) := area2_spec (some x) l Rec.ok_some hl
theorem same_l (x y : Bool) (l r : List Rect) (hl : l.length ≤ 1000000) : pureCall E.P (L E) 9 [lst x (rectR.vals l), lst y (rectR.vals r)] = some (.bool (decide (l = r))) := same_rects (some x) (some y) l r Rec.ok_some Rec.ok_some hl
theorem rf_l (h : Heap) (x : Bool) (l : List Rect) : reify E.P 8 h (lst x (rectR.vals l)) = some (lst x (rectR.vals l)) := rfl
theorem set_l (x : Bool) (l : List Rect) : settled depth (lst x (rectR.vals l)) = true := rfl
theorem len_l (h : Heap) (x : Bool) (l : List Rect) : lenT .sl h (lst x (rectR.vals l)) = some (.int .i64 l.length) := Rec.tree_len

def okT (l : List Rect) : Value := .tuple ⟨[lst false (rectR.vals l), .int .i64 0]⟩
theorem minus_r {a b : List Rect} {S T : Int → Int → Bool} (ha : Reg a S) (hb : Reg b T) (R : List Rect) (hR : ∀ r ∈ R, r.x0 < r.x1) (hS : Det R S) (hT : Det R T) (hl : R.length ≤ 14) :
    ∃ u, pureCall E.P (L E) 14 [lst false (rectR.vals a), lst false (rectR.vals b)] = some (okT u) ∧ Reg u fun x y => subF (S x y) (T x y) := by
  obtain ⟨u, e, h⟩ := op_reg subF rfl ha hb R hR hS hT hl
  refine ⟨u, ?_, h⟩
  rw [minus_l false false a b (by have := ha.len; omega) (by have := hb.len; omega), e]; rfl
theorem of_bad {l : List Rect} (h : l.all okR = false) : ofR l = .error 1 := by
  unfold ofR; rw [h]; rfl

/-! ### Moving -/
theorem shift_l (z : Bool) (l : List Rect) (dx dy : Int) (hl : l.length ≤ 1000000) : pureCall E.P (L E) 12 [lst z (rectR.vals l), .int .i64 dx, .int .i64 dy] = some (resL (shiftX l dx dy)) := shift_spec (some z) l dx dy Rec.ok_some hl
theorem bounds_l (z : Bool) (l : List Rect) (hl : l.length ≤ 1000000) (h0 : l ≠ []) (hr : regB l = true) : pureCall E.P (L E) 13 [lst z (rectR.vals l)] = some (.tuple ⟨[rectR.val (bndL l), .bool true]⟩) := bounds_spec (some z) l Rec.ok_some hl h0 hr
theorem parts_l (z : Bool) (l : List Rect) (hl : l.length ≤ 1000000) (h0 : l ≠ []) (hr : regB l = true) : pureCall E.P (L E) 7 [lst z (rectR.vals l)] = some (lst false (partV ((partsL l).map ofL))) :=
  (parts_spec (some z) l Rec.ok_some h0 hl).trans (by rw [hr, if_pos rfl])
theorem shiftX_nil (dx dy : Int) : shiftX [] dx dy = .ok [] := rfl
/-- A region moves if all of it stays on the grid. -/
theorem shiftX_ok {l : List Rect} {S : Int → Int → Bool} (h : Reg l S) {dx dy : Int} (h1 : -1048576 ≤ dx ∧ dx ≤ 1048576 ∧ -1048576 ≤ dy ∧ dy ≤ 1048576) (ha : (shiftL dx dy l).all okR = true) : shiftX l dx dy = .ok (shiftL dx dy l) ∧ Reg (shiftL dx dy l) fun x y => S (x - dx) (y - dy) := by
  refine ⟨?_, h.form.sh dx dy, fun x y => ?_, fun r hr => okR_iff.1 (List.all_eq_true.1 ha r hr), by unfold shiftL; rw [List.length_map]; exact h.len⟩
  · unfold shiftX
    rw [h.right, if_pos rfl, if_neg (by omega), if_pos ha]
  · unfold shiftL
    rw [Rg.cell_sh, h.cell]
theorem shiftX_no {l : List Rect} {S : Int → Int → Bool} (h : Reg l S) (h0 : l ≠ []) {dx dy : Int} (h1 : ¬ (-1048576 ≤ dx ∧ dx ≤ 1048576 ∧ -1048576 ≤ dy ∧ dy ≤ 1048576) ∨ (shiftL dx dy l).all okR = false) : shiftX l dx dy = .error 3 := by
  unfold shiftX
  have hl : 0 < l.length := List.length_pos_iff.2 h0
  rw [h.right, if_pos rfl]
  rcases h1 with h1 | h1
  · rw [if_pos ⟨hl, by omega⟩]
  · by_cases h2 : 0 < l.length ∧ (1048576 < max dx dy ∨ min dx dy < -1048576)
    · rw [if_pos h2]
    · rw [if_neg h2, h1]; rfl
theorem shift_fit {l : List Rect} (h0 : l ≠ []) (hl : ∀ r ∈ l, r.inBox 1048576) (dx dy : Int) : (shiftL dx dy l).all okR = true ↔ 0 ≤ (bndL l).x0 + dx ∧ (bndL l).x1 + dx ≤ 1048576 ∧ 0 ≤ (bndL l).y0 + dy ∧ (bndL l).y1 + dy ≤ 1048576 := by
  have pos : ∀ r ∈ l, r.x0 < r.x1 ∧ r.y0 < r.y1 := fun r hr => by have := hl r hr; unfold Rect.inBox at this; omega
  have hb := (Rg.bnd_fit (n := 1048576) h0 pos).2 hl
  have h2 := Rg.bnd_fit (n := 1048576) (l := shiftL dx dy l) (fun e => h0 (List.map_eq_nil_iff.1 e)) fun r hr => by
    obtain ⟨s, hs, rfl⟩ := List.mem_map.1 hr
    have := pos s hs
    unfold shR
    simp only
    omega
  have e1 : bndL (shiftL dx dy l) = shR dx dy (bndL l) := Rg.bnd_sh dx dy h0
  rw [e1] at h2
  have e2 : (shiftL dx dy l).all okR = true ↔ ∀ r ∈ shiftL dx dy l, r.inBox 1048576 := ⟨fun h r hr => okR_iff.1 (List.all_eq_true.1 h r hr), fun h => List.all_eq_true.2 fun r hr => okR_iff.2 (h r hr)⟩
  rw [e2, ← h2]
  unfold Rect.inBox at hb ⊢
  unfold shR
  simp only
  omega
end Go.Proofs.Yteaoeebakmdcnaa.Bm

namespace Go.Proofs.Yteaoeebakmdcnaa.Bm
open Go Go.RowKit
open Rg (Rect areaL cell opL ofL norm Det cell_det shR bndL partsL)

theorem area_r {a : List Rect} {S : Int → Int → Bool} (ha : Reg a S) : pureCall E.P (L E) 11 [lst false (rectR.vals a)] = some (.int .i64 (areaL a)) := by
  rw [area_l false a (by have := ha.len; omega), ha.right]; rfl
set_option maxHeartbeats 4000000 in
theorem shifts_spec (a b : List Rect) (dx dy : Int) : ∃ h', L E 4 [lst false (rectR.vals a), lst false (rectR.vals b), .int .i64 dx, .int .i64 dy] [] 0 = some (.bool true, h') := by
  have sm := small_spec
  have si : ∀ z : Int, settled depth (Value.int .i64 z) = true := fun _ => rfl
  rw [L_fn F4 rfl]
  by_cases h1 : 6 < a.length
  · have h1' : 6 < (a.length : Int) := by omega
    exact ⟨[], by simp -implicitDefEqProofs [r4, p4, ret0 m5, sm, len_l, Rec.vals_len, h1']⟩
  have h1' : ¬ (6 < (a.length : Int)) := by omega
  by_cases h2 : 6 < b.length
  · have h2' : 6 < (b.length : Int) := by omega
    exact ⟨[], by simp -implicitDefEqProofs [r4, p4, ret0 m5, sm, len_l, Rec.vals_len, h1', h2']⟩
  have h2' : ¬ (6 < (b.length : Int)) := by omega
  have la := of_l false a (by omega)
  have lb := of_l false b (by omega)
  cases oa : a.all okR
  · rw [of_bad oa] at la
    refine ⟨[], ?_⟩
    cases ob : ofR b <;> rw [ob] at lb <;> simp only [resL] at la lb <;>
      simp -implicitDefEqProofs [r4, p4, ret0 m5, sm, len_l, Rec.vals_len, h1', h2', ret4 m6, frzL, la, lb]
  obtain ⟨x, ex, rx⟩ := of_reg oa (by omega)
  rw [ex] at la
  cases ob : b.all okR
  · rw [of_bad ob] at lb
    refine ⟨[], ?_⟩
    simp only [resL] at la lb
    simp -implicitDefEqProofs [r4, p4, ret0 m5, sm, len_l, Rec.vals_len, h1', h2', ret4 m6, frzL, la, lb]
  obtain ⟨y, ey, ry⟩ := of_reg ob (by omega)
  rw [ey] at lb
  simp only [resL] at la lb
  have lx := rx.len
  have ly := ry.len
  have sx := shift_l false x dx dy (by omega)
  by_cases x0 : x = []
  · subst x0
    rw [shiftX_nil] at sx
    simp only [resL] at sx
    refine ⟨[], ?_⟩
    simp -implicitDefEqProofs [r4, p4, ret0 m5, sm, len_l, Rec.vals_len, h1', h2', ret4 m6, frzL, la, lb, ret1 m12, set_l, si, sx]
  have nx : ¬ (x.length = 0) := fun e => x0 (List.eq_nil_of_length_eq_zero e)
  have nx' : ¬ ((x.length : Int) = 0) := by omega
  have bx := bounds_l false x (by omega) x0 rx.right
  rw [rect_val] at bx
  have fit := shift_fit x0 rx.ok dx dy
  have bb := (Rg.bnd_fit (n := 1048576) x0 fun r hr => by have := rx.ok r hr; unfold Rect.inBox at this; omega).2 rx.ok
  generalize hB : bndL x = B at *
  unfold Rect.inBox at bb
  have no : ∀ (h : ¬ ((-1048576 ≤ dx ∧ dx ≤ 1048576 ∧ -1048576 ≤ dy ∧ dy ≤ 1048576) ∧ 0 ≤ B.x0 + dx ∧ B.x1 + dx ≤ 1048576 ∧ 0 ≤ B.y0 + dy ∧ B.y1 + dy ≤ 1048576)), shiftX x dx dy = .error 3 := fun h =>
    shiftX_no rx x0 (by
      by_cases hi : (-1048576 ≤ dx ∧ dx ≤ 1048576 ∧ -1048576 ≤ dy ∧ dy ≤ 1048576)
      · refine .inr ?_
        cases q : (shiftL dx dy x).all okR
        · rfl
        · exact absurd ⟨hi, fit.1 q⟩ h
      · exact .inl hi)
  by_cases q1 : -1048576 ≤ dx
  case neg =>
    rw [no (by omega)] at sx
    simp only [resL] at sx
    refine ⟨[.cells 32 [.int .i64 B.x0, .int .i64 B.y0, .int .i64 B.x1, .int .i64 B.y1] 0], ?_⟩
    simp -implicitDefEqProofs [r4, p4, ret0 m5, sm, len_l, Rec.vals_len, h1', h2', ret4 m6, frzL, la, lb, ret1 m12, set_l, si, sx, nx, nx', ret0 m13, rf_l, bx, q1]
  by_cases q2 : dx ≤ 1048576
  case neg =>
    rw [no (by omega)] at sx
    simp only [resL] at sx
    refine ⟨[.cells 32 [.int .i64 B.x0, .int .i64 B.y0, .int .i64 B.x1, .int .i64 B.y1] 0], ?_⟩
    simp -implicitDefEqProofs [r4, p4, ret0 m5, sm, len_l, Rec.vals_len, h1', h2', ret4 m6, frzL, la, lb, ret1 m12, set_l, si, sx, nx, nx', ret0 m13, rf_l, bx, q1, q2]
  by_cases q3 : -1048576 ≤ dy
  case neg =>
    rw [no (by omega)] at sx
    simp only [resL] at sx
    refine ⟨[.cells 32 [.int .i64 B.x0, .int .i64 B.y0, .int .i64 B.x1, .int .i64 B.y1] 0], ?_⟩
    simp -implicitDefEqProofs [r4, p4, ret0 m5, sm, len_l, Rec.vals_len, h1', h2', ret4 m6, frzL, la, lb, ret1 m12, set_l, si, sx, nx, nx', ret0 m13, rf_l, bx, q1, q2, q3]
  by_cases q4 : dy ≤ 1048576
  case neg =>
    rw [no (by omega)] at sx
    simp only [resL] at sx
    refine ⟨[.cells 32 [.int .i64 B.x0, .int .i64 B.y0, .int .i64 B.x1, .int .i64 B.y1] 0], ?_⟩
    simp -implicitDefEqProofs [r4, p4, ret0 m5, sm, len_l, Rec.vals_len, h1', h2', ret4 m6, frzL, la, lb, ret1 m12, set_l, si, sx, nx, nx', ret0 m13, rf_l, bx, q1, q2, q3, q4]
  have w0 : IntKind.i64.wrap (B.x0 + dx) = B.x0 + dx := wrap64 (by omega) (by omega)
  have w1 : IntKind.i64.wrap (B.x1 + dx) = B.x1 + dx := wrap64 (by omega) (by omega)
  have w2 : IntKind.i64.wrap (B.y0 + dy) = B.y0 + dy := wrap64 (by omega) (by omega)
  have w3 : IntKind.i64.wrap (B.y1 + dy) = B.y1 + dy := wrap64 (by omega) (by omega)
  by_cases q5 : 0 ≤ B.x0 + dx
  case neg =>
    rw [no (by omega)] at sx
    simp only [resL] at sx
    refine ⟨[.cells 32 [.int .i64 B.x0, .int .i64 B.y0, .int .i64 B.x1, .int .i64 B.y1] 0], ?_⟩
    simp -implicitDefEqProofs [r4, p4, ret0 m5, sm, len_l, Rec.vals_len, h1', h2', ret4 m6, frzL, la, lb, ret1 m12, set_l, si, sx, nx, nx', ret0 m13, rf_l, bx, q1, q2, q3, q4, w0, w1, w2, w3, q5]
  by_cases q6 : B.x1 + dx ≤ 1048576
  case neg =>
    rw [no (by omega)] at sx
    simp only [resL] at sx
    refine ⟨[.cells 32 [.int .i64 B.x0, .int .i64 B.y0, .int .i64 B.x1, .int .i64 B.y1] 0], ?_⟩
    simp -implicitDefEqProofs [r4, p4, ret0 m5, sm, len_l, Rec.vals_len, h1', h2', ret4 m6, frzL, la, lb, ret1 m12, set_l, si, sx, nx, nx', ret0 m13, rf_l, bx, q1, q2, q3, q4, w0, w1, w2, w3, q5, q6]
  by_cases q7 : 0 ≤ B.y0 + dy
  case neg =>
    rw [no (by omega)] at sx
    simp only [resL] at sx
    refine ⟨[.cells 32 [.int .i64 B.x0, .int .i64 B.y0, .int .i64 B.x1, .int .i64 B.y1] 0], ?_⟩
    simp -implicitDefEqProofs [r4, p4, ret0 m5, sm, len_l, Rec.vals_len, h1', h2', ret4 m6, frzL, la, lb, ret1 m12, set_l, si, sx, nx, nx', ret0 m13, rf_l, bx, q1, q2, q3, q4, w0, w1, w2, w3, q5, q6, q7]
  by_cases q8 : B.y1 + dy ≤ 1048576
  case neg =>
    rw [no (by omega)] at sx
    simp only [resL] at sx
    refine ⟨[.cells 32 [.int .i64 B.x0, .int .i64 B.y0, .int .i64 B.x1, .int .i64 B.y1] 0], ?_⟩
    simp -implicitDefEqProofs [r4, p4, ret0 m5, sm, len_l, Rec.vals_len, h1', h2', ret4 m6, frzL, la, lb, ret1 m12, set_l, si, sx, nx, nx', ret0 m13, rf_l, bx, q1, q2, q3, q4, w0, w1, w2, w3, q5, q6, q7, q8]
  have inn : -1048576 ≤ dx ∧ dx ≤ 1048576 ∧ -1048576 ≤ dy ∧ dy ≤ 1048576 := ⟨q1, q2, q3, q4⟩
  obtain ⟨es, rs⟩ := shiftX_ok rx inn (fit.2 ⟨q5, q6, q7, q8⟩)
  have hsb : shiftL (-dx) (-dy) (shiftL dx dy x) = x := Rg.sh_back dx dy x
  have eb : pureCall E.P (L E) 12 [lst false (rectR.vals (shiftL dx dy x)), .int .i64 (-dx), .int .i64 (-dy)] = some (.tuple ⟨[lst false (rectR.vals x), .int .i64 0]⟩) := by
    have h1 := (shiftX_ok rs (dx := -dx) (dy := -dy) (by omega) (by rw [hsb]; exact List.all_eq_true.2 fun r hr => okR_iff.2 (rx.ok r hr))).1
    rw [shift_l false _ _ _ (by have := rs.len; omega), h1, hsb]; rfl
  have s0 : shiftL dx dy x ≠ [] := fun e => x0 (List.map_eq_nil_iff.1 e)
  have bs' := bounds_l false (shiftL dx dy x) (by have := rs.len; omega) s0 rs.right
  have ebn : bndL (shiftL dx dy x) = shR dx dy B := by rw [← hB]; exact Rg.bnd_sh dx dy x0
  rw [ebn, rect_val] at bs'
  simp only [shR] at bs'
  have ax := area_r rx
  have as' := area_r rs
  have ear : areaL (shiftL dx dy x) = areaL x := Rg.area_sh dx dy x
  rw [ear] at as'
  have px := parts_l false x (by omega) x0 rx.right
  have ps := parts_l false (shiftL dx dy x) (by have := rs.len; omega) s0 rs.right
  have epl : (partV ((partsL (shiftL dx dy x)).map ofL)).length = (partV ((partsL x).map ofL)).length := by
    unfold partV
    rw [List.length_map, List.length_map, List.length_map, List.length_map]; exact Rg.parts_sh dx dy x
  have sm2 : ∀ l : List Rect, l.length ≤ 200 → pureCall E.P (L E) 9 [lst false (rectR.vals l), lst false (rectR.vals l)] = some (.bool true) := fun l hl => by
    rw [same_l false false l l (by omega), decide_eq_true rfl]
  have smx := sm2 x lx
  have n1 : IntKind.i64.wrap (-dx) = -dx := wrap64 (by omega) (by omega)
  have n2 : IntKind.i64.wrap (-dy) = -dy := wrap64 (by omega) (by omega)
  rw [es] at sx
  simp only [resL] at sx
  have ty := shift_l false y dx dy (by omega)
  generalize hs : shiftL dx dy x = s at *
  generalize hp1 : (partsL s).map ofL = P1 at *
  generalize hp2 : (partsL x).map ofL = P2 at *
  cases hy : (shiftL dx dy y).all okR
  · have hy0 : y ≠ [] := fun e => by rw [e] at hy; cases hy
    rw [shiftX_no ry hy0 (.inr hy)] at ty
    simp only [resL] at ty
    refine ⟨[.cells 32 [.int .i64 B.x0, .int .i64 B.y0, .int .i64 B.x1, .int .i64 B.y1] 0, .cells 32 [.int .i64 (B.x0 + dx), .int .i64 (B.y0 + dy), .int .i64 (B.x1 + dx), .int .i64 (B.y1 + dy)] 0], ?_⟩
    simp -implicitDefEqProofs [r4, p4, ret0 m5, sm, len_l, Rec.vals_len, h1', h2', ret4 m6, frzL, la, lb, ret1 m12, set_l, si, sx, nx, nx', ret0 m13, rf_l, bx, q1, q2, q3, q4, w0, w1, w2, w3, q5, q6, q7, q8, n1, n2, eb, bs', ret0 m11, as', ax, ret1 m7, ps, px, ret0 m9, smx, epl, ty]
  have hR : ∀ l : List Rect, l.all okR = true → ∀ r ∈ l, r.x0 < r.x1 := fun l hl r hr => by have := okR_iff.1 (List.all_eq_true.1 hl r hr); unfold Rect.inBox at this; omega
  have dS : Det (a ++ b) (cell a) := (cell_det a).mono fun r hr => List.mem_append_left _ hr
  have dT : Det (a ++ b) (cell b) := (cell_det b).mono fun r hr => List.mem_append_right _ hr
  have pab : ∀ r ∈ a ++ b, r.x0 < r.x1 := fun r hr => (List.mem_append.1 hr).elim (hR a oa r) (hR b ob r)
  have cS : cell (a.map (shR dx dy)) = fun x y => cell a (x - dx) (y - dy) := funext fun u => funext fun v => Rg.cell_sh dx dy u v a
  have cT : cell (b.map (shR dx dy)) = fun x y => cell b (x - dx) (y - dy) := funext fun u => funext fun v => Rg.cell_sh dx dy u v b
  have eS : Det (a.map (shR dx dy) ++ b.map (shR dx dy)) (fun x y => cell a (x - dx) (y - dy)) := by
    rw [← cS]; exact (cell_det _).mono fun r hr => List.mem_append_left _ hr
  have eT : Det (a.map (shR dx dy) ++ b.map (shR dx dy)) (fun x y => cell b (x - dx) (y - dy)) := by
    rw [← cT]; exact (cell_det _).mono fun r hr => List.mem_append_right _ hr
  have pst : ∀ r ∈ a.map (shR dx dy) ++ b.map (shR dx dy), r.x0 < r.x1 := fun r hr => by
    rw [← List.map_append] at hr
    obtain ⟨q, hq, rfl⟩ := List.mem_map.1 hr
    have := pab q hq
    unfold shR
    simp only
    omega
  obtain ⟨et, rt⟩ := shiftX_ok ry inn hy
  rw [et] at ty
  simp only [resL] at ty
  generalize ht : shiftL dx dy y = t at *
  obtain ⟨one, e1, r1⟩ := minus_r rs rt _ pst eS eT (by rw [List.length_append, List.length_map, List.length_map]; omega)
  obtain ⟨less, e2, r2⟩ := minus_r rx ry _ pab dS dT (by rw [List.length_append]; omega)
  have ho : one = shiftL dx dy less := r1.form.ext (r2.form.sh dx dy) fun u v => by
    unfold shiftL
    rw [r1.cell, Rg.cell_sh, r2.cell]
  have e3 : pureCall E.P (L E) 12 [lst false (rectR.vals less), .int .i64 dx, .int .i64 dy] = some (.tuple ⟨[lst false (rectR.vals one), .int .i64 0]⟩) := by
    have h1 := (shiftX_ok r2 inn (by rw [← ho]; exact List.all_eq_true.2 fun r hr => okR_iff.2 (r1.ok r hr))).1
    rw [shift_l false _ _ _ (by have := r2.len; omega), h1, ← ho]; rfl
  have e4 := sm2 one r1.len
  unfold okT at e1 e2
  refine ⟨[.cells 32 [.int .i64 B.x0, .int .i64 B.y0, .int .i64 B.x1, .int .i64 B.y1] 0, .cells 32 [.int .i64 (B.x0 + dx), .int .i64 (B.y0 + dy), .int .i64 (B.x1 + dx), .int .i64 (B.y1 + dy)] 0], ?_⟩
  simp -implicitDefEqProofs [r4, p4, ret0 m5, sm, len_l, Rec.vals_len, h1', h2', ret4 m6, frzL, la, lb, ret1 m12, set_l, si, sx, nx, nx', ret0 m13, rf_l, bx, q1, q2, q3, q4, w0, w1, w2, w3, q5, q6, q7, q8, n1, n2, eb, bs', ret0 m11, as', ax, ret1 m7, ps, px, ret0 m9, smx, epl, ty, ret1 m14, e1, e2, e3, e4]
end Go.Proofs.Yteaoeebakmdcnaa.Bm
