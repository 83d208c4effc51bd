/-
 Chapter 07: a region's columns, by where they begin, walked. Conditions: lists that are not too long.
-/
import Derived.Test.YtcjdpkifooenkaaQT16
import Derived.Test.YtcjdpkifooenkaaQT23
import Derived.Test.YtcjdpkifooenkaaQT25
import Derived.Test.YtcjdpkifooenkaaQT15
import Derived.Test.YtcjdpkifooenkaaQT17
namespace Go.Proofs.Ytcjdpkifooenkaa.Bm
open Go Go.RowKit
structure Enc (α : Type) where
 e : α → Value
 one : ∀ a, one (e a) = true
 set : ∀ a n, settled (n + 1) (e a) = true
 bel : ∀ a d n, below (d + 1) n (e a) = true
 fits : ∀ a sz, fitsTT ⟨some false, sz⟩ (e a) = true
namespace Enc
variable {α : Type} {O : Enc α} {h : Heap} {l m : List α} {P : Program}
def vals (O : Enc α) (l : List α) : List Value := l.map O.e
def o (O : Enc α) (k : Option Bool) (l : List α) : Value := match k with | none => .slice none 0 0 | some b => lst b (O.vals l)
def Ok (k : Option Bool) (l : List α) : Prop := k = none → l = []
theorem ok_some {b : Bool} : Ok (some b) l := fun h => by cases h
def row (O : Enc α) (t : TypeId) (l : List α) : AObj := .cells t (O.vals l) 1
def part (b n : Nat) (l : List α) : Value := .slice (some ⟨b, 0, some l.length⟩) n l.length
def sl (b : Nat) (l : List α) : Value := .slice (some ⟨b, 0, some l.length⟩) l.length l.length
def at_ (b : Nat) (l : List α) (i : Nat) : Value := .pointer (some ⟨b, i, some l.length⟩)
theorem vals_len : (O.vals l).length = l.length := List.length_map _
theorem vals_app : O.vals (l ++ m) = O.vals l ++ O.vals m := List.map_append
theorem e_cells (a : α) : cellsL (O.e a) = [O.e a] := by
 have := O.one a
 unfold cellsL
 split
 ·rename_i h; rw [h] at this; cases this
 ·rfl
theorem vals_all (l : List α) : (O.vals l).all (fun v => (cellsL v).length == 1) = true := by
 rw [List.all_eq_true]
 intro v hv
 obtain ⟨a, _, rfl⟩ := List.mem_map.1 hv
 rw [e_cells]; rfl
theorem vals_set (l : List α) : (O.vals l).all (settled 8) = true := by
 rw [List.all_eq_true]
 intro v hv
 obtain ⟨a, _, rfl⟩ := List.mem_map.1 hv
 exact O.set a 7
theorem vals_flat : ∀ l : List α, (O.vals l).flatMap cellsL = O.vals l
 | [] => rfl
 | a :: l => by
  show cellsL (O.e a) ++ (O.vals l).flatMap cellsL = O.e a :: O.vals l
  rw [e_cells, vals_flat l]; rfl
theorem vals_get {i : Nat} (hi : i < l.length) : (O.vals l)[i]? = some (O.e l[i]) := by
 unfold vals; rw [List.getElem?_map, List.getElem?_eq_getElem hi]; rfl
theorem vals_take (n : Nat) : (O.vals l).take n = O.vals (l.take n) := by unfold vals; rw [List.map_take]
theorem o_len {k : Option Bool} (hk : Ok k l) : lenT .sl h (O.o k l) = some (.int .i64 l.length) := by
 cases k with
 | none => rw [hk rfl]; rfl
 | some b => show lenT .sl h (lst b (O.vals l)) = _; rw [len_lst, vals_len]
theorem o_set {k : Option Bool} {n : Nat} : settled (n + 1) (O.o k l) = true := by cases k <;> rfl
theorem o_bel {k : Option Bool} {d n : Nat} : below (d + 1) n (O.o k l) = true := by cases k <;> rfl
theorem o_fits {k : Option Bool} {sz : Option Nat} : fitsTT ⟨some false, sz⟩ (O.o k l) = true := by cases k <;> rfl
theorem o_reify {k : Option Bool} {n : Nat} : reify P (n + 1) h (O.o k l) = some (O.o k l) := by cases k <;> rfl
theorem cells_tree {x : Bool} : sliceCells h 1 (lst x (O.vals l)) = some (O.vals l, l.length) := by
 rw [cells_lst (vals_all l), vals_flat, vals_len]
theorem index_tree {x : Bool} {t : TypeId} {i : Nat} {k : IntKind} (hi : i < l.length) : indexAddrT (.sl t ⟨some false, some 1⟩) (lst x (O.vals l)) (.int k (i : Int)) = some (cptr (O.e l[i])) := by
 rw [index_lst, if_pos (by omega), Int.toNat_natCast, vals_get hi, Option.bind_some, O.fits, e_cells]; rfl
theorem row_bel {n : Nat} {t : TypeId} : belowO n (O.row t l) = true := by
 show (O.vals l).all (below 8 n) = true
 rw [List.all_eq_true]
 intro v hv
 obtain ⟨a, _, rfl⟩ := List.mem_map.1 hv
 exact O.bel a 7 n
theorem sl_bel {n d b : Nat} (hb : b < n) : below (d + 1) n (sl b l) = true := decide_eq_true hb
theorem sl_len {b : Nat} : lenT .sl h (sl b l) = some (.int .i64 l.length) := rfl
theorem fits_row {b n : Nat} {t : TypeId} (hob : h[b]? = some (O.row t l)) (hn : n = l.length) {off : Nat} : fitsRow h ⟨b, off, some n⟩ 1 = true := by
 subst hn
 unfold fitsRow
 show (match h[b]? with | some (.cells _ c g) => _ | _ => false) = true
 rw [hob]
 show (stampOk _ 1 (O.vals l).length && _) = true
 unfold stampOk; rw [vals_len]; simp
theorem reify_part {b n d : Nat} {t : TypeId} (hob : h[b]? = some (O.row t l)) (hn : n ≤ l.length) (hs : szOf P t = some 1) (ha : aggT P t = some false) : reify P (d + 1) h (part b n l) = some (lst false (O.vals (l.take n))) := by
 unfold part
 rw [reify_slice]
 by_cases h0 : n = 0
 ·subst h0; rfl
 ·rw [if_neg h0]
  show reifyS P d h h[b]? _ _ = _
  rw [hob]
  show reifyS P d h (some (.cells t (O.vals l) 1)) _ _ = _
  rw [reifyS_cells, hs, Option.bind_some, if_pos ⟨by unfold stampOk; rw [vals_len]; simp, Nat.one_pos, by rw [vals_len]; simp; omega⟩, List.drop_zero, Nat.mul_one, vals_take,
   reifyC_set (vals_set _), Option.bind_some, elems_one ha hs]; rfl
theorem reify_sl {b d : Nat} {t : TypeId} (hob : h[b]? = some (O.row t l)) (hs : szOf P t = some 1) (ha : aggT P t = some false) : reify P (d + 1) h (sl b l) = some (lst false (O.vals l)) := by
 have := reify_part (P := P) (d := d) hob (Nat.le_refl l.length) hs ha
 rw [List.take_length] at this
 exact this
theorem reifyR_sl {b : Nat} {t : TypeId} (hob : h[b]? = some (O.row t l)) (hs : szOf P t = some 1) (ha : aggT P t = some false) : reifyR P h (sl b l) = some (lst false (O.vals l)) := reify_sl hob hs ha
theorem frz_part {b n lo : Nat} {t : TypeId} (hob : h[b]? = some (O.row t l)) (hn : n ≤ l.length) (hs : szOf P t = some 1) (ha : aggT P t = some false) (hlo : lo ≤ b) :
  freezeV P depth lo h (part b n l) = some (lst false (O.vals (l.take n)), if n = 0 then h else h.set b .dead) := by
 have e : ((O.vals l).drop 0).take (n * 1) = O.vals (l.take n) := by rw [List.drop_zero, Nat.mul_one, vals_take]
 exact frz_row1 (a := ⟨b, 0, some l.length⟩) (t := t) (c := O.vals l) (g := 1) hob hs hlo (by unfold stampOk; rw [vals_len]; simp) Nat.one_pos (by rw [vals_len]; simp; omega) (by rw [e]; exact vals_set _)
  (by rw [e]; exact elems_one ha hs) (by rw [vals_len, List.length_take]; omega)
theorem app {el : El} {lo b : Nat} {t : TypeId} {u : Value} (hel : el.size = 1) (hob : h[b]? = some (O.row t l)) (hu : sliceCells h 1 u = some (O.vals m, m.length)) (hlo : lo ≤ b) (hb : (l.length + m.length) * el.bytes ≤ 2 ^ 47) :
  appendT (some el) h lo false (sl b l) u = some (sl b (l ++ m), h.set b (O.row t (l ++ m))) := by
 have hob' : h[b]? = some (.cells t (O.vals l) 1) := hob
 unfold sl
 rw [append_slice, hel, hu]
 show appS el h lo false _ _ _ h[b]? _ = _
 by_cases hm : m.length = 0
 ·have : m = [] := List.eq_nil_of_length_eq_zero hm
  subst this
  have hf : fitsRow h ⟨b, 0, some l.length⟩ el.size = true := by rw [hel]; exact fits_row hob rfl
  unfold appS
  simp only [List.append_nil, List.length_nil, Nat.add_zero, Nat.le_refl, if_true, hf, Option.bind_some]
  congr 2
  refine (List.ext_getElem? fun i => ?_)
  rw [List.getElem?_set]
  split
  ·rename_i e; subst e
   split
   ·exact hob
   ·rename_i hlt; rw [List.getElem?_eq_none (by omega)]
  ·rfl
 ·rw [hob']
  refine (appS_grown (m := m.length) hm vals_len.symm rfl hel (by rw [vals_len]; omega) hlo hb).trans ?_
  unfold row
  rw [vals_app, List.length_append, vals_len, vals_len, List.length_append]
theorem app_nil {el : El} {lo : Nat} {st : Bool} {u : Value} (hel : el.size = 1) (hu : sliceCells h 1 u = some (O.vals m, m.length)) (hm : m ≠ []) (hb : m.length * el.bytes ≤ 2 ^ 47) :
  appendT (some el) h lo st (.slice none 0 0) u = some (sl h.length m, h ++ [O.row el.e m]) := by
 have hm0 : m.length ≠ 0 := fun e => hm (List.eq_nil_of_length_eq_zero e)
 rw [append_nil, hel, hu]
 simp only [Option.bind_some]
 rw [if_neg hm0, if_pos hb, vals_len]; rfl
end Enc
def intE : Enc Int := ⟨.int .i64, fun _ => rfl, fun _ _ => rfl, fun _ _ _ => rfl, fun _ _ => rfl⟩
end Go.Proofs.Ytcjdpkifooenkaa.Bm
namespace Go.Proofs.Ytcjdpkifooenkaa.Bm
open Go Go.RowKit
variable {h : Heap} {P : Program}
def cAt (b j : Nat) : Value := .pointer (some ⟨b, j, none⟩)
theorem obj_row {b : Nat} {t : TypeId} {c : List Value} (hob : h[b]? = some (.cells t c 0)) {j : Nat} : rowOf h ⟨b, j, none⟩ = some c := by
 unfold rowOf
 show (match h[b]? with | some (.cells _ c g) => _ | _ => none) = _
 rw [hob]; rfl
theorem obj_load {b j : Nat} {t : TypeId} {c : List Value} {v : Value} {sz : Option Nat} (hob : h[b]? = some (.cells t c 0)) (hc : c[j]? = some v) : loadT ⟨some false, sz⟩ h (cAt b j) = some v := by
 unfold cAt
 rw [load_one, obj_row hob, Option.bind_some, hc]
theorem obj_store {b j lo : Nat} {t : TypeId} {c : List Value} {v : Value} (hob : h[b]? = some (.cells t c 0)) (hj : j < c.length) (hlo : lo ≤ b) (hv : cellsOf v = some [v]) : storeT (some 1) h lo v (cAt b j) = some (h.set b (.cells t (c.set j v) 0)) := by
 unfold cAt
 rw [store_ptr, hv, Option.bind_some, if_pos (show 1 = [v].length from rfl)]
 unfold wrN
 show (match h[b]? with | some (.cells t c g) => _ | _ => none) = _
 rw [hob]
 show (if _ then _ else none) = _
 rw [if_pos ⟨hlo, rfl, by simp, by simp; omega⟩]
 show some (h.set b (.cells t (splice c j [v]) 0)) = _
 rw [splice_one hj]
theorem obj_frz {b lo : Nat} {t : TypeId} {c : List Value} (hob : h[b]? = some (.cells t c 0)) (hs : szOf P t = some c.length) (ha : aggT P t = some true) (hlo : lo ≤ b) (hc : c.all (settled 8) = true) :
  freezeV P depth lo h (cAt b 0) = some (cptr (.agg ⟨c⟩), h.set b .dead) := by
 unfold cAt
 rw [frz_ptr8 hob hs ha hlo, if_pos hc]; rfl
theorem isCp_cptr {v : Value} : isCp (cptr v) = true := rfl
theorem rop_loadC {E : Env} {C : Callee} {lo : Nat} {k : TI} {x : Operand} {ρ : Operand → Value} (hc : isCp (ρ x) = true) : ropR E C lo true (.load k x) ρ h = (loadT k h (ρ x)).map (·, h) := by
 show (if (true && !(isCp (ρ x) || isLow lo h (ρ x))) = true then none else _) = _
 rw [hc]; rfl
end Go.Proofs.Ytcjdpkifooenkaa.Bm
namespace Go.Proofs.Ytcjdpkifooenkaa.Bm
open Go Go.RowKit
open Rg (Rect Pt sortU inY ysB upL)
def inRy (y : Int) (r : Rect) : Bool := decide (r.y0 ≤ y) && decide (y < r.y1)
theorem inY_any (l : List Rect) (y : Int) : inY l y = l.any (inRy y) := rfl
theorem in1_spec (r : Rect) (y : Int) : pureCall E.P (L E) 58 [rectR.val r, cptr (.int .i64 y)] = some (.bool (inRy y r)) := by
 rw [pureCall_fn F58 rfl]
 unfold inRy
 by_cases h1 : r.y0 ≤ y
 ·simp -implicitDefEqProofs [r58, p58, rect_val, h1]
 ·simp -implicitDefEqProofs [r58, p58, rect_val, h1]
theorem indexI_spec (k : Option Bool) (l : List Rect) (y : Int) (hk : Rec.Ok k l) (hl : l.length ≤ 1000000) : L E 51 [rectR.o k l, .func (.func 58) ⟨[]⟩ ⟨[cptr (.int .i64 y)]⟩] [] 0 = some (.int .i64 (firstP (inRy y) l 0), []) := by
 rw [L_fn F51 rfl]
 simp -implicitDefEqProofs [r51, padS, Rec.o_len hk]
 rw [LL_for (γ := Unit) l () (fun i _ => [(8, .int .i64 i)]) (fun _ _ => []) (fun i rest _ => if rest.any (inRy y) then (.ret, [(4, .int .i64 (firstP (inRy y) rest i)), (8, undef)], []) else (.exit 0, [(8, undef)], [])) (fun _ _ => True) (by omega) trivial]
 ·cases h : l.any (inRy y)
  ·have hm := firstP_none (inRy y) l 0 h
   simp -implicitDefEqProofs [k51_2, hm]
  ·simp -implicitDefEqProofs [k51_2, h]
 ·simp -implicitDefEqProofs [k51_2]
 ·rfl
 ·intro nx i c hi _
  simp -implicitDefEqProofs [r51_2, k51_2, hi, Rec.o_len hk, trim_le]
 ·intro nx i r rest c hi hv hd hw _ ih
  have ih := ih () trivial
  have ixi := Rec.o_index (R := rectR) (t := 39) (kk := .i64) (s := 4) rfl hk hi
  rw [hv] at ixi
  have h1 := in1_spec r y
  rw [rect_val] at h1
  have e : (r :: rest).any (inRy y) = (inRy y r || rest.any (inRy y)) := rfl
  have e2 : firstP (inRy y) (r :: rest) i = if inRy y r then (i : Int) else firstP (inRy y) rest (i + 1) := rfl
  rw [e, e2]
  simp -implicitDefEqProofs [k51_2] at ih
  cases h : inRy y r
  ·simp -implicitDefEqProofs [r51_2, k51_2, hi, ixi, Rec.o_len hk, rect_val, ret0 m58, h1, h, hw, trim_le]
   exact ih
  ·simp -implicitDefEqProofs [r51_2, k51_2, hi, ixi, Rec.o_len hk, rect_val, ret0 m58, h1, h, trim_le]
theorem containsI_spec (k : Option Bool) (l : List Rect) (y : Int) (hk : Rec.Ok k l) (hl : l.length ≤ 1000000) : pureCall E.P (L E) 29 [rectR.o k l, .func (.func 58) ⟨[]⟩ ⟨[cptr (.int .i64 y)]⟩] = some (.bool (inY l y)) := by
 have key := indexI_spec k l y hk hl
 have hn := firstP_nonneg (inRy y) l 0
 rw [← inY_any] at hn
 rw [pureCall_fn F29 rfl]
 simp -implicitDefEqProofs [r29, padS, ret2 m51, key, hn]
theorem in_spec (k : Option Bool) (l : List Rect) (y : Int) (hk : Rec.Ok k l) (hl : l.length ≤ 1000000) : pureCall E.P (L E) 57 [rectR.o k l, .int .i64 y] = some (.bool (inY l y)) := by
 have h1 := containsI_spec k l y hk hl
 have a3 : aggT E.P 3 = some false := by kernel_rfl
 have wp : ∀ v, wrapP (some false) [v] = some (cptr v) := fun _ => rfl
 rw [pureCall_fn F57 rfl]
 simp -implicitDefEqProofs [r57, padS, ret0 m29, Rec.o_reify, h1, s3, a3, wp]
def yL (l : List Rect) : List Int := l.flatMap fun r => [r.y0, r.y1]
theorem yL_cons (r : Rect) (l : List Rect) : yL (r :: l) = [r.y0, r.y1] ++ yL l := rfl
theorem yL_len (l : List Rect) : (yL l).length = 2 * l.length := by
 induction l with
 | nil => rfl
 | cons r l ih =>
  have e2 : (r :: l).length = l.length + 1 := rfl
  have e3 : [r.y0, r.y1].length = 2 := rfl
  rw [yL_cons, List.length_append, ih, e2, e3]; omega
theorem flat_ints (l : List Int) : intR.flat l = intE.vals l := by
 induction l with
 | nil => rfl
 | cons z l ih => exact congrArg (Value.int .i64 z :: ·) ih
theorem frz_pre {h : Heap} {b n lo : Nat} {e r : List Int} (hob : h[b]? = some (intR.row 3 (e ++ r))) (hn : (e ++ r).length = n) (hlo : lo ≤ b) :
  ∃ h', freezeV E.P depth lo h (preS b n e) = some (lst false (intE.vals e), h') ∧ h' = (if e.length = 0 then h else h.set b .dead) := by
 subst hn
 have key := Enc.frz_part (P := E.P) (O := intE) (h := h) (b := b) (n := e.length) (lo := lo) (t := 3) (l := e ++ r) (hob.trans (congrArg some (show intR.row 3 (e ++ r) = intE.row 3 (e ++ r) by unfold Rec.row Enc.row; congr 1; exact flat_ints _))) (by rw [List.length_append]; omega) s3 (by kernel_rfl) hlo
 rw [List.take_left] at key
 exact ⟨_, key, rfl⟩
theorem zS : szOf E.P 53 = some 4 := by kernel_rfl
theorem bPt {a b : Int} : buildT (Bl.fs ⟨[.int .i64 0, .int .i64 0]⟩ ⟨[(0, 1), (1, 1)]⟩) #[(0, .int .i64 a), (1, .int .i64 b)] = some (.agg ⟨[.int .i64 a, .int .i64 b]⟩) := rfl
theorem bSd {a b c d : Int} : buildT (Bl.fs ⟨[.int .i64 0, .int .i64 0, .int .i64 0, .int .i64 0]⟩ ⟨[(0, 2), (2, 2)]⟩) #[(0, .agg ⟨[.int .i64 a, .int .i64 b]⟩), (1, .agg ⟨[.int .i64 c, .int .i64 d]⟩)] = some (.agg ⟨[.int .i64 a, .int .i64 b, .int .i64 c, .int .i64 d]⟩) := rfl
theorem lit_side (h : Heap) (a b c d : Int) : buildSliceT (some ⟨53, 4, 32, .agg ⟨[.int .i64 0, .int .i64 0, .int .i64 0, .int .i64 0]⟩, ⟨some true, some 4⟩⟩) false h 1 #[(0, .agg ⟨[.int .i64 a, .int .i64 b, .int .i64 c, .int .i64 d]⟩)] = some (lst true [.agg ⟨[.int .i64 a, .int .i64 b, .int .i64 c, .int .i64 d]⟩], h) :=
 (build_lit' (n := 1) (l := [(0, .agg ⟨[.int .i64 a, .int .i64 b, .int .i64 c, .int .i64 d]⟩)]) rfl rfl (by decide) (by decide) (by decide)).trans rfl
theorem app_side {h : Heap} {b lo : Nat} {c : List (Pt × Pt)} (s : Pt × Pt) (hob : h[b]? = some (sideR.row 53 c)) (hlo : lo ≤ b) (hc : c.length ≤ 1000000) :
  appendT (some ⟨53, 4, 32, .agg ⟨[.int .i64 0, .int .i64 0, .int .i64 0, .int .i64 0]⟩, ⟨some true, some 4⟩⟩) h lo false (sideR.sl b c) (lst true [.agg ⟨[.int .i64 s.1.1, .int .i64 s.1.2, .int .i64 s.2.1, .int .i64 s.2.2]⟩]) = some (sideR.sl b (c ++ [s]), h.set b (sideR.row 53 (c ++ [s]))) :=
 Rec.app (R := sideR) (m := [s]) rfl hob (Rec.cells_tree (R := sideR) rfl [s]) hlo (by show (c.length + 1) * 32 ≤ 2 ^ 47; omega)
theorem upL_end {x : Int} {A B : List Rect} {ys : List Int} {i : Nat} (h : ¬ i + 1 < ys.length) : upL x A B (ys.drop i) = [] := by
 have hl : (ys.drop i).length ≤ 1 := by rw [List.length_drop]; omega
 match ys.drop i, hl with
 | [], _ => rfl
 | [_], _ => rfl
theorem upright_spec (x : Int) (ka kb : Option Bool) (A B : List Rect) (hA : Rec.Ok ka A) (hB : Rec.Ok kb B) (hl : A.length + B.length ≤ 1000) :
  pureCall E.P (L E) 44 [.int .i64 x, rectR.o ka A, rectR.o kb B] = some (lst false (sideR.vals (upL x A B (ysB A B)))) := by
 have hcat := rects_concat true [(ka, A), (kb, B)] (by intro p hp; rcases List.mem_cons.1 hp with e | e; · subst e; exact hA
                                                       ·rw [List.mem_singleton] at e; subst e; exact hB) (by show 2 ≤ 1000; decide) (by show A.length + (B.length + 0) ≤ 1000000; omega)
 have hal : allP [(ka, A), (kb, B)] = A ++ B := by show A ++ (B ++ []) = A ++ B; rw [List.append_nil]
 have hok : Rec.Ok (if tot [(ka, A), (kb, B)] = 0 then none else some false) (A ++ B) := by
  intro hk
  split at hk
  ·rename_i h0
   exact List.eq_nil_of_length_eq_zero (by rw [← hal, tot_all, h0])
  ·cases hk
 rw [hal] at hcat
 generalize (if tot [(ka, A), (kb, B)] = 0 then none else some false) = kc at hcat hok
 have hcl : (A ++ B).length ≤ 1000 := by rw [List.length_append]; omega
 have inA := fun y => in_spec ka A y hA (by omega)
 have inB := fun y => in_spec kb B y hB (by omega)
 have rA : ∀ h, reify E.P 8 h (rectR.o ka A) = some (rectR.o ka A) := fun h => Rec.o_reify
 have rB : ∀ h, reify E.P 8 h (rectR.o kb B) = some (rectR.o kb B) := fun h => Rec.o_reify
 have bA : ∀ d n, below (d + 1) n (rectR.o ka A) = true := fun d n => Rec.o_bel
 have bB : ∀ d n, below (d + 1) n (rectR.o kb B) = true := fun d n => Rec.o_bel
 have st : settled depth (lst true [rectR.o ka A, rectR.o kb B]) = true := by
  cases ka <;> cases kb <;> rfl
 have li := fun h => lit_list2 h ka kb A B
 have hcat : pureCall E.P (L E) 40 [lst true [rectR.o ka A, rectR.o kb B]] = some (rectR.o kc (A ++ B)) := hcat
 have hys : ysB A B = sortU (yL (A ++ B)) := rfl
 rw [pureCall_fn F44 rfl, hys]
 generalize hVA : rectR.o ka A = VA at *
 generalize hVB : rectR.o kb B = VB at *
 generalize A ++ B = C at *
 simp -implicitDefEqProofs [r44, p44, prep_new, newK_nil s3, li, ret1 m40, hcat, st, Rec.o_len hok]
 rw [LL_for (γ := List Int) C [] (fun i c => [(7, intR.sl 0 c), (22, .int .i64 i)]) (fun _ c => [intR.row 3 c])
  (fun _ rest c => (.exit 0, [(7, intR.sl 0 (c ++ yL rest)), (22, undef)], [intR.row 3 (c ++ yL rest)])) (fun i c => c.length = 2 * i) (by omega) rfl]
 ·rw [List.nil_append]
  have hel := yL_len C
  have so := sortInts (h := [intR.row 3 (yL C)]) (b := 0) (lo := 0) (d := yL C) rfl (Nat.le_refl _) (by omega)
  obtain ⟨r, co, hr⟩ := compInts (h := [intR.row 3 (sortI (yL C))]) (b := 0) (lo := 0) (d := sortI (yL C)) rfl (Nat.le_refl _) (by rw [sortI_len]; omega)
  rw [Rg.comp_sort] at co hr
  have e1 : intR.sl 0 (sortI (yL C)) = intR.sl 0 (yL C) := int_sl (sortI_len _)
  rw [e1, sortI_len] at co
  rw [sortI_len] at hr
  generalize sortU (yL C) = ys at *
  generalize hn : (yL C).length = n at *
  have hyn : ys.length ≤ 40000 := by rw [List.length_append] at hr; omega
  obtain ⟨h', fz, hh⟩ := frz_pre (h := [intR.row 3 (ys ++ r)]) (b := 0) (lo := 0) (n := n) (e := ys) rfl hr (Nat.le_refl _)
  obtain ⟨d, hd, bd⟩ : ∃ d, h' = [d] ∧ ∀ n, belowO n d = true := by
   rw [hh]
   split
   ·exact ⟨_, rfl, fun n => Rec.row_bel _⟩
   ·exact ⟨_, rfl, fun n => rfl⟩
  subst hd
  have ln : ∀ h, lenT .sl h (lst false (intE.vals ys)) = some (.int .i64 ys.length) := fun h => Enc.o_len (O := intE) (k := some false) Enc.ok_some
  have ixy : ∀ (i : Nat) (hi : i < ys.length), indexAddrT (.sl 3 ⟨some false, some 1⟩) (lst false (intE.vals ys)) (.int .i64 (i : Int)) = some (cptr (.int .i64 ys[i])) := fun i hi => Enc.index_tree (O := intE) hi
  have bF : ∀ d n, below (d + 1) n (.func (.func 57) ⟨[]⟩ ⟨[]⟩) = true := fun d n => rfl
  have bC : ∀ d n, below (d + 1) n (rectR.o kc C) = true := fun d n => Rec.o_bel
  have bY : ∀ d n, below (d + 1) n (lst false (intE.vals ys)) = true := fun d n => rfl
  have wl : IntKind.i64.wrap ((ys.length : Int) - 1) = (ys.length : Int) - 1 := wrap64 (by omega) (by omega)
  simp -implicitDefEqProofs [k44_3, ret2 (E := E) (f := 33) rfl, ret2 (E := E) (f := 34) rfl, so, co, prep_frz, fz, prep_new, newK_nil zS, ln, wl, max_int]
  generalize hVY : lst false (intE.vals ys) = VY at *
  clear so co hcat li st
  rw [LL_rec (α := Nat × List (Pt × Pt)) (0, []) (fun c => [(11, sideR.sl 1 c.2), (42, .int .i64 (c.1 : Int))]) (fun c => [d, sideR.row 53 c.2])
   (fun c => (.exit 2, [(11, sideR.sl 1 (c.2 ++ upL x A B (ys.drop c.1))), (42, undef)], [d, sideR.row 53 (c.2 ++ upL x A B (ys.drop c.1))])) (fun c => c.1 ≤ ys.length ∧ c.2.length ≤ c.1) (fun c => ys.length - c.1)]
  ·have rr := Rec.reify_row (R := sideR) (P := E.P) (h := [d, sideR.row 53 (upL x A B ys)]) (b := 1) (n := 7) (t := 53) (l := upL x A B ys) rfl zS (by kernel_rfl)
   have rr : reifyR E.P [d, sideR.row 53 (upL x A B ys)] (sideR.sl 1 (upL x A B ys)) = _ := rr
   simp -implicitDefEqProofs [k44_12, rr]
  ·exact ⟨Nat.zero_le _, Nat.zero_le _⟩
  ·simp -implicitDefEqProofs [k44_12, Rec.sl_nil]
  ·rfl
  ·intro nx c hc ih
   obtain ⟨i, o⟩ := c
   obtain ⟨h1, h2⟩ := hc
   simp only at h1 h2
   by_cases hi : i + 1 < ys.length
   ·have hi' : (i : Int) < max 0 ((ys.length : Int) - 1) := by omega
    have wi : IntKind.i64.wrap ((i : Int) + 1) = ((i + 1 : Nat) : Int) := (wrap64 (by omega) (by omega)).trans (by omega)
    have x0 := ixy i (by omega)
    have x1 := ixy (i + 1) hi
    have hd : ys.drop i = ys[i] :: ys[i + 1] :: ys.drop (i + 2) := by
     rw [List.drop_eq_getElem_cons (show i < ys.length by omega), List.drop_eq_getElem_cons hi]
    have hd2 : ys.drop (i + 1) = ys[i + 1] :: ys.drop (i + 2) := List.drop_eq_getElem_cons hi
    have ek : upL x A B (ys[i] :: ys[i + 1] :: ys.drop (i + 2)) = (if (inY A ys[i] && !inY B ys[i]) = true then [((x, ys[i]), (x, ys[i + 1]))] else if (inY B ys[i] && !inY A ys[i]) = true then [((x, ys[i + 1]), (x, ys[i]))] else []) ++ upL x A B (ys[i + 1] :: ys.drop (i + 2)) := rfl
    rw [hd, ek, ← hd2, ← List.append_assoc]
    have ihA := ih (i + 1, o ++ [((x, ys[i]), (x, ys[i + 1]))]) (by show ys.length - (i + 1) < ys.length - i; omega) ⟨by show i + 1 ≤ ys.length; omega, by show (o ++ [_]).length ≤ i + 1; simp; omega⟩
    have ihB := ih (i + 1, o ++ [((x, ys[i + 1]), (x, ys[i]))]) (by show ys.length - (i + 1) < ys.length - i; omega) ⟨by show i + 1 ≤ ys.length; omega, by show (o ++ [_]).length ≤ i + 1; simp; omega⟩
    have ihC := ih (i + 1, o) (by show ys.length - (i + 1) < ys.length - i; omega) ⟨by show i + 1 ≤ ys.length; omega, by show o.length ≤ i + 1; omega⟩
    have iA := inA ys[i]
    have iB := inB ys[i]
    generalize ys[i] = u at *
    generalize ys[i + 1] = v at *
    have ap1 := fun a b => app_side (h := [d, sideR.row 53 o, a, b]) (b := 1) (lo := 0) (c := o) ((x, u), (x, v)) rfl (Nat.zero_le _) (by omega)
    have ap2 := fun a b => app_side (h := [d, sideR.row 53 o, a, b]) (b := 1) (lo := 0) (c := o) ((x, v), (x, u)) rfl (Nat.zero_le _) (by omega)
    simp -implicitDefEqProofs [k44_12, -List.append_assoc, -Int.natCast_add] at ihA ihB ihC
    cases qa : inY A u <;> cases qb : inY B u <;> rw [qa] at iA <;> rw [qb] at iB <;>
     simp -implicitDefEqProofs [r44_12, k44_12, hi', wi, x0, x1, prep_still, rop_loadC, isCp_cptr, bPt, ret0 m57, rA, rB, iA, iB, bSd, lit_side, ap1, ap2, trim_cut, bA, bB, bY, bC, bF, bd, pre_bel, Rec.sl_bel, Rec.row_bel, -List.append_assoc, -Int.natCast_add]
    ·exact ihC
    ·exact ihB
    ·exact ihA
    ·exact ihC
   ·have hi' : ¬ ((i : Int) < max 0 ((ys.length : Int) - 1)) := by omega
    rw [upL_end hi, List.append_nil]
    simp -implicitDefEqProofs [r44_12, k44_12, hi', trim_le]
 ·simp -implicitDefEqProofs [k44_3, Rec.sl_nil]
 ·rfl
 ·intro nx i c hi _
  simp -implicitDefEqProofs [r44_3, k44_3, hi, trim_le, yL]
 ·intro nx i s rest c hi hv hd hw hc ih
  have ixi := Rec.o_index (R := rectR) (t := 39) (kk := .i64) (s := 4) rfl hok hi
  rw [hv] at ixi
  have ap := fun o => app_two' (h := [intR.row 3 c, o]) (b := 0) (lo := 0) (c := c) s.y0 s.y1 rfl (Nat.le_refl _) (by omega)
  have ih := ih (c ++ [s.y0, s.y1]) (by simp; omega)
  rw [yL_cons, ← List.append_assoc]
  simp -implicitDefEqProofs [k44_3, -List.append_assoc] at ih
  simp -implicitDefEqProofs [r44_3, k44_3, hi, ixi, rect_val, lit_two, ap, hw, trim_cut, bA, bB, Rec.sl_bel, Rec.row_bel, Rec.o_bel, -List.append_assoc, -List.all_eq_true]
  exact ih
end Go.Proofs.Ytcjdpkifooenkaa.Bm
namespace Go.Proofs.Ytcjdpkifooenkaa.Bm
open Go Go.RowKit
theorem LL_ex {k : List Nat × List Nat} {b : Body} {σ₀ : Slots} {h₀ : Heap} {α : Type} (a₀ : α) (up : α → List (Nat × Value)) (H : α → Heap) (Q : Exit × Slots × Heap → Prop) (I : α → Prop) (ms : α → Nat)
  (hI : I a₀) (e0 : sets (up a₀) (forget k.1 σ₀) = forget k.1 σ₀) (e1 : H a₀ = h₀)
  (step : ∀ (nx : Body) a, I a → (∀ a', ms a' < ms a → I a' → ∃ r, nx (sets (up a') (forget k.1 σ₀)) (H a') = some r ∧ Q r) →
   ∃ r, lopK k.1 k.2 nx (H a).length (b (forget k.1 (sets (up a) (forget k.1 σ₀))) (H a)) = some r ∧ Q r) :
  ∃ r, LL k b σ₀ h₀ = some r ∧ Q r := by
 have key : ∀ n a, ms a = n → I a → ∃ r, LL k b (sets (up a) (forget k.1 σ₀)) (H a) = some r ∧ Q r := by
  intro n
  induction n using Nat.strongRecOn with
  | _ n ih =>
   intro a ha hi
   rw [LL_go]
   exact step (LL k b) a hi fun a' hlt hi' => ih (ms a') (by omega) a' rfl hi'
 have h := key _ a₀ rfl hI
 rw [e0, e1] at h
 have e : LL k b (forget k.1 σ₀) h₀ = LL k b σ₀ h₀ := by
  rw [LL_go, LL_go, forget_twice]
 rw [e] at h
 exact h
end Go.Proofs.Ytcjdpkifooenkaa.Bm
namespace Go.Proofs.Ytcjdpkifooenkaa.Bm
open Go Go.RowKit
theorem LL_ux {k : List Nat × List Nat} {b : Body} {σ₀ : Slots} {h₀ : Heap} {α U : Type} (a₀ : α) (up : α → List (Nat × Value)) (H : α → Heap) (e : Exit) (ups : U → List (Nat × Value)) (K : U → Heap → Prop) (I : α → Prop) (ms : α → Nat)
  (hI : I a₀) (e0 : sets (up a₀) (forget k.1 σ₀) = forget k.1 σ₀) (e1 : H a₀ = h₀)
  (step : ∀ (nx : Body) a, I a → (∀ a', ms a' < ms a → I a' → ∃ u h', nx (sets (up a') (forget k.1 σ₀)) (H a') = fin (forget k.1 σ₀) (e, ups u, h') ∧ K u h') →
   ∃ u h', lopK k.1 k.2 nx (H a).length (b (forget k.1 (sets (up a) (forget k.1 σ₀))) (H a)) = fin (forget k.1 σ₀) (e, ups u, h') ∧ K u h') :
  ∃ u h', LL k b σ₀ h₀ = fin (forget k.1 σ₀) (e, ups u, h') ∧ K u h' := by
 obtain ⟨r, h1, u, h', h2, h3⟩ := LL_ex (k := k) (b := b) (σ₀ := σ₀) (h₀ := h₀) a₀ up H (fun r => ∃ u h', some r = fin (forget k.1 σ₀) (e, ups u, h') ∧ K u h') I ms hI e0 e1 fun nx a ha ih => by
  obtain ⟨u, h', he, hk⟩ := step nx a ha fun a' hlt hi' => by
   obtain ⟨r, h1, u, h', h2, h3⟩ := ih a' hlt hi'
   exact ⟨u, h', h1.trans h2, h3⟩
  exact ⟨_, he, u, h', rfl, hk⟩
 exact ⟨u, h', h1.trans h2, h3⟩
end Go.Proofs.Ytcjdpkifooenkaa.Bm
namespace Go.Proofs.Ytcjdpkifooenkaa.Bm
open Go Go.RowKit
theorem Rec.app_nil {α : Type} {R : Rec α} {el : El} {h : Heap} {lo : Nat} {st : Bool} {m : List α} {u : Value} (hel : el.size = R.m + 1) (hu : sliceCells h el.size u = some (R.flat m, m.length)) (hm : m ≠ []) (hb : m.length * el.bytes ≤ 2 ^ 47) :
  appendT (some el) h lo st (.slice none 0 0) u = some (R.sl h.length m, h ++ [R.row el.e m]) := by
 have hm0 : m.length ≠ 0 := fun e => hm (List.eq_nil_of_length_eq_zero e)
 rw [append_nil, hu]
 simp only [Option.bind_some]
 rw [if_neg hm0, if_pos hb, Rec.flat_len]
 unfold Rec.row
 rw [hel]
 rfl
section
variable {α κ : Type} [DecidableEq κ] {R : Rec α} {t : TypeId} {lo : Nat} {h : Heap} {l : List (κ × Value)} {bl : κ → Nat} {f : κ → List α}
structure MR (R : Rec α) (t : TypeId) (lo : Nat) (h : Heap) (l : List (κ × Value)) (bl : κ → Nat) (f : κ → List α) : Prop where
 non : ∀ k, aget l k = none → f k = []
 val : ∀ k v, aget l k = some v → v = R.sl (bl k) (f k) ∧ h[bl k]? = some (R.row t (f k)) ∧ lo ≤ bl k
 inj : ∀ k j, aget l k ≠ none → aget l j ≠ none → bl k = bl j → k = j
def upd (f : κ → List α) (k : κ) (v : List α) : κ → List α := fun j => if k = j then v else f j
def updB (f : κ → Nat) (k : κ) (v : Nat) : κ → Nat := fun j => if k = j then v else f j
theorem get_lt {h : Heap} {b : Nat} {x : AObj} (q : h[b]? = some x) : b < h.length := by
 rcases Nat.lt_or_ge b h.length with c | c
 ·exact c
 ·rw [List.getElem?_eq_none c] at q; cases q
theorem MR.init : MR R t lo h ([] : List (κ × Value)) bl fun _ => [] := ⟨fun _ _ => rfl, fun k v q => by simp [aget] at q, fun k j q => absurd rfl q⟩
theorem MR.keep {h' : Heap} (M : MR R t lo h l bl f) (hk : ∀ o x, lo ≤ o → h[o]? = some x → h'[o]? = some x) : MR R t lo h' l bl f :=
 ⟨M.non, fun k v q => ⟨(M.val k v q).1, hk _ _ (M.val k v q).2.2 (M.val k v q).2.1, (M.val k v q).2.2⟩, M.inj⟩
theorem MR.keepB {h' : Heap} (M : MR R t lo h l bl f) (hk : ∀ k x, aget l k ≠ none → h[bl k]? = some x → h'[bl k]? = some x) : MR R t lo h' l bl f :=
 ⟨M.non, fun k v q => ⟨(M.val k v q).1, hk k _ (by rw [q]; simp) (M.val k v q).2.1, (M.val k v q).2.2⟩, M.inj⟩
theorem MR.lt (M : MR R t lo h l bl f) {k : κ} (hk : aget l k ≠ none) : lo ≤ bl k ∧ bl k < h.length := by
 cases q : aget l k with
 | none => exact absurd q hk
 | some v => exact ⟨(M.val k v q).2.2, get_lt (M.val k v q).2.1⟩
theorem MR.add {el : El} (M : MR R el.e lo h l bl f) {l0 : Nat} (h0 : l0 ≤ lo) (h1 : lo ≤ h.length) (k : κ) (a : α) {u : Value} (hel : el.size = R.m + 1) (hu : ∀ h, sliceCells h el.size u = some (R.flat [a], 1)) (hf : ((f k).length + 1) * el.bytes ≤ 2 ^ 47) :
  ∃ h' bl', appendT (some el) h l0 false ((aget l k).getD (.slice none 0 0)) u = some (R.sl (bl' k) (f k ++ [a]), h') ∧ MR R el.e lo h' (aset l k (R.sl (bl' k) (f k ++ [a]))) bl' (upd f k (f k ++ [a])) ∧ h.length ≤ h'.length ∧ (∀ o x, o < lo → h[o]? = some x → h'[o]? = some x) := by
 cases q : aget l k with
 | none =>
  have hn := M.non k q
  rw [hn]
  refine ⟨h ++ [R.row el.e [a]], updB bl k h.length, ?_, ⟨fun j hj => ?_, fun j v hj => ?_, fun i j hi hj e => ?_⟩, by simp, fun o x ho hx => by rw [List.getElem?_append_left (by omega)]; exact hx⟩
  ·have e : updB bl k h.length k = h.length := if_pos rfl
   rw [e]
   exact Rec.app_nil (R := R) (m := [a]) hel (hu h) (by simp) (by rw [hn] at hf; simpa using hf)
  ·rw [aget_set] at hj
   split at hj
   ·cases hj
   ·rename_i c; unfold upd; rw [if_neg c]; exact M.non j hj
  ·rw [aget_set] at hj
   unfold upd updB
   split at hj
   ·rename_i c
    subst c
    rw [if_pos rfl, if_pos rfl]
    refine ⟨?_, by simp, h1⟩
    cases hj
    unfold updB; rw [if_pos rfl]
   ·rename_i c
    rw [if_neg c, if_neg c]
    obtain ⟨m1, m2, m3⟩ := M.val j v hj
    exact ⟨m1, by rw [List.getElem?_append_left (get_lt m2)]; exact m2, m3⟩
  ·rw [aget_set] at hi hj
   unfold updB at e
   split at hi
   ·rename_i c
    split at hj
    ·rename_i d; exact c.symm.trans d
    ·rename_i d
     rw [if_pos c, if_neg d] at e
     cases qj : aget l j with
     | none => exact absurd qj hj
     | some v =>
      have := get_lt (M.val j v qj).2.1
      omega
   ·rename_i c
    split at hj
    ·rename_i d
     rw [if_neg c, if_pos d] at e
     cases qi : aget l i with
     | none => exact absurd qi hi
     | some v =>
      have := get_lt (M.val i v qi).2.1
      omega
    ·rename_i d
     rw [if_neg c, if_neg d] at e
     exact M.inj i j hi hj e
 | some v =>
  obtain ⟨m1, m2, m3⟩ := M.val k v q
  subst m1
  refine ⟨h.set (bl k) (R.row el.e (f k ++ [a])), bl, Rec.app (R := R) (m := [a]) hel m2 (hu h) (Nat.le_trans h0 m3) hf, ⟨fun j hj => ?_, fun j v hj => ?_, fun i j hi hj e => ?_⟩, by simp, fun o x ho hx => by rw [List.getElem?_set_ne (by omega)]; exact hx⟩
  ·rw [aget_set] at hj
   split at hj
   ·cases hj
   ·rename_i c; unfold upd; rw [if_neg c]; exact M.non j hj
  ·rw [aget_set] at hj
   unfold upd
   split at hj
   ·rename_i c
    subst c
    rw [if_pos rfl]
    cases hj
    exact ⟨rfl, by rw [List.getElem?_set_self (get_lt m2)], m3⟩
   ·rename_i c
    rw [if_neg c]
    obtain ⟨n1, n2, n3⟩ := M.val j v hj
    refine ⟨n1, ?_, n3⟩
    rw [List.getElem?_set_ne fun e => c (M.inj k j (by rw [q]; simp) (by rw [hj]; simp) e)]
    exact n2
  ·rw [aget_set] at hi hj
   refine M.inj i j ?_ ?_ e
   ·split at hi
    ·rename_i c; rw [← c, q]; simp
    ·exact hi
   ·split at hj
    ·rename_i c; rw [← c, q]; simp
    ·exact hj
theorem MR.trim {enc : κ → Value} {m n : Nat} {vs : List Value} (M : MR R t lo h l bl f) (hm : h[m]? = some (mapB enc l)) (hmn : m < n) : MR R t lo (Bm.trim n vs h) l bl f := by
 unfold Bm.trim
 split
 ·exact M
 split
 ·rename_i hc
  rw [Bool.and_eq_true] at hc
  have hc := hc.2
  have hb : belowO n (mapB enc l) = true := List.all_eq_true.1 hc _ (List.mem_of_getElem? (i := m) (by rw [List.getElem?_take_of_lt hmn]; exact hm))
  have hall : ∀ (l : List (κ × Value)) (i : Nat), ((ents enc l i).all fun e => below 8 n e.key && below 8 n e.val) = true → ∀ k v, aget l k = some v → below 8 n v = true := by
   intro l
   induction l with
   | nil => intro i _ k v q; simp [aget] at q
   | cons p l ih =>
    intro i ha k v q
    simp only [ents, List.all_cons, Bool.and_eq_true] at ha
    unfold aget at q
    split at q
    ·cases q; exact ha.1.2
    ·exact ih _ ha.2 k v q
  refine ⟨M.non, fun k v q => ?_, M.inj⟩
  obtain ⟨m1, m2, m3⟩ := M.val k v q
  have hv := hall l 0 hb k v q
  rw [m1] at hv
  have hv : bl k < n := of_decide_eq_true hv
  exact ⟨m1, by rw [List.getElem?_take_of_lt hv]; exact m2, m3⟩
 ·exact M
theorem trim_get {n o : Nat} {vs : List Value} {x : AObj} (ho : o < n) (hx : h[o]? = some x) : (Bm.trim n vs h)[o]? = some x := by
 unfold Bm.trim
 split
 ·exact hx
 split
 ·rw [List.getElem?_take_of_lt ho]; exact hx
 ·exact hx
end
theorem LL_uxk {k : List Nat × List Nat} {b : Body} {σ₀ : Slots} {h₀ : Heap} {X : CRes} (hX : LL k b σ₀ h₀ = X) {α U : Type} (a₀ : α) (up : α → List (Nat × Value)) (H : α → Heap) (e : Exit) (ups : U → List (Nat × Value)) (K : U → Heap → Prop) (I : α → Prop) (ms : α → Nat)
  (hI : I a₀) (e0 : sets (up a₀) (forget k.1 σ₀) = forget k.1 σ₀) (e1 : H a₀ = h₀)
  (step : ∀ (nx : Body) a, I a → (∀ a', ms a' < ms a → I a' → ∃ u h', nx (sets (up a') (forget k.1 σ₀)) (H a') = fin (forget k.1 σ₀) (e, ups u, h') ∧ K u h') →
   ∃ u h', lopK k.1 k.2 nx (H a).length (b (forget k.1 (sets (up a) (forget k.1 σ₀))) (H a)) = fin (forget k.1 σ₀) (e, ups u, h') ∧ K u h') :
  ∃ u h', X = fin (forget k.1 σ₀) (e, ups u, h') ∧ K u h' := by
 rw [← hX]
 exact LL_ux a₀ up H e ups K I ms hI e0 e1 step
end Go.Proofs.Ytcjdpkifooenkaa.Bm
namespace Go.Proofs.Ytcjdpkifooenkaa.Bm
open Go Go.RowKit
open Rg (Rect Pt sortU endsX begsX)
theorem lookup_get {P : Program} {κ : Type} [DecidableEq κ] {enc : κ → Value} {l : List (κ × Value)} {kt : TypeId} {k : κ} {r : Nat} {h : Heap} {zv : Value} (K : KeyEnc P kt enc) (hh : h[r]? = some (mapB enc l)) :
  lookupT P (some ⟨kt, some zv⟩) h (.map (some r)) (enc k) false = some ((aget l k).getD zv) := by
 cases q : aget l k with
 | none => rw [lookup_none K rfl hh q]; rfl
 | some v => rw [lookup_some K rfl hh q]; rfl
theorem uI : E.P.underlying 3 = some (.int .i64) := by kernel_rfl
def encI (z : Int) : Value := .int .i64 z
theorem keyI : KeyEnc E.P 3 encI := ⟨fun _ => rfl, fun _ => by simp [encI, keyOk, uI], fun a b => by simp [encI, aKeyEq, uI, Instr.sameNow]; rfl, fun _ => by simp [encI, Instr.sameBits]⟩
theorem MR.congr {α κ : Type} [DecidableEq κ] {R : Rec α} {t : TypeId} {lo : Nat} {h : Heap} {l : List (κ × Value)} {bl : κ → Nat} {f g : κ → List α} (M : MR R t lo h l bl f) (e : ∀ k, f k = g k) : MR R t lo h l bl g := by
 have : f = g := funext e
 rw [← this]; exact M
theorem begs_snoc {a : List Rect} {i : Nat} (hi : i < a.length) (x : Int) : upd (fun x => begsX (a.take i) x) a[i].x0 (begsX (a.take i) a[i].x0 ++ [a[i]]) x = begsX (a.take (i + 1)) x := by
 have e : a.take (i + 1) = a.take i ++ [a[i]] := by rw [List.take_add_one, List.getElem?_eq_getElem hi]; rfl
 unfold upd begsX
 rw [e, List.filter_append]
 by_cases q : a[i].x0 = x
 ·rw [if_pos q, q]; simp [q]
 ·rw [if_neg q]; simp [q]
theorem ends_snoc {a : List Rect} {i : Nat} (hi : i < a.length) (x : Int) : upd (fun x => endsX (a.take i) x) a[i].x1 (endsX (a.take i) a[i].x1 ++ [a[i]]) x = endsX (a.take (i + 1)) x := by
 have e : a.take (i + 1) = a.take i ++ [a[i]] := by rw [List.take_add_one, List.getElem?_eq_getElem hi]; rfl
 unfold upd endsX
 rw [e, List.filter_append]
 by_cases q : a[i].x1 = x
 ·rw [if_pos q, q]; simp [q]
 ·rw [if_neg q]; simp [q]
theorem frz_cell {g : Heap} (r : Rect) : freezeV E.P depth 0 (g ++ [.cells 39 [.int .i64 r.x0, .int .i64 r.y0, .int .i64 r.x1, .int .i64 r.y1] 0]) (.pointer (some ⟨g.length, 0, none⟩)) = some (cptr (.agg ⟨[.int .i64 r.x0, .int .i64 r.y0, .int .i64 r.x1, .int .i64 r.y1]⟩), g ++ [.dead]) := by
 have key := obj_frz (P := E.P) (h := g ++ [.cells 39 [.int .i64 r.x0, .int .i64 r.y0, .int .i64 r.x1, .int .i64 r.y1] 0]) (b := g.length) (lo := 0) (t := 39) (c := [.int .i64 r.x0, .int .i64 r.y0, .int .i64 r.x1, .int .i64 r.y1]) end0 s32 a32 (Nat.zero_le _) rfl
 rw [set0] at key
 exact key
def elR : El := ⟨39, 4, 32, .agg ⟨[.int .i64 0, .int .i64 0, .int .i64 0, .int .i64 0]⟩, ⟨some true, some 4⟩⟩
theorem columns_spec (k : Option Bool) (a : List Rect) (hk : Rec.Ok k a) (ha : a.length ≤ 1000000) (h : Heap) :
  ∃ l bl g, L E 43 [rectR.o k a] h 0 = some (.map (some h.length), g) ∧ g[h.length]? = some (mapB encI l) ∧ MR rectR 39 (h.length + 1) g l bl (fun x => begsX a x) ∧ (∀ o x, o < h.length → h[o]? = some x → g[o]? = some x) := by
 have bA : ∀ d n, below (d + 1) n (rectR.o k a) = true := fun d n => Rec.o_bel
 have lA : ∀ h, lenT .sl h (rectR.o k a) = some (.int .i64 a.length) := fun h => Rec.o_len hk
 have ix : ∀ (i : Nat) (hi : i < a.length), indexAddrT (.sl 39 ⟨some true, some 4⟩) (rectR.o k a) (.int .i64 (i : Int)) = some (cptr (rectR.val a[i])) := fun i hi => Rec.o_index (R := rectR) rfl hk hi
 rw [L_fn F43 rfl]
 generalize hVA : rectR.o k a = VA at *
 have fm : flat (.map none) = true := rfl
 simp -implicitDefEqProofs [r43, p43, lA, fm]
 generalize hX : LL _ _ _ _ = X
 obtain ⟨u, g, rfl, hg⟩ := LL_uxk hX (α := Nat × List (Int × Value) × (Int → Nat) × Heap) (U := List (Int × Value) × (Int → Nat)) (0, [], fun _ => 0, h ++ [mapB encI []]) (fun c => [(9, .int .i64 (c.1 : Int))]) (fun c => c.2.2.2) (.exit 0) (fun _ => [(9, undef)])
   (fun u g => g[h.length]? = some (mapB encI u.1) ∧ MR rectR 39 (h.length + 1) g u.1 u.2 (fun x => begsX a x) ∧ (∀ o x, o < h.length → h[o]? = some x → g[o]? = some x))
   (fun c => c.1 ≤ a.length ∧ c.2.2.2[h.length]? = some (mapB encI c.2.1) ∧ MR rectR 39 (h.length + 1) c.2.2.2 c.2.1 c.2.2.1 (fun x => begsX (a.take c.1) x) ∧ (∀ o x, o < h.length → h[o]? = some x → c.2.2.2[o]? = some x)) (fun c => a.length - c.1)
  ⟨Nat.zero_le _, end0, MR.init, fun o x ho hx => by rw [List.getElem?_append_left ho]; exact hx⟩
  (by simp -implicitDefEqProofs [k43_3]) rfl (by
  intro nx c hc ih
  obtain ⟨i, l, bl, g⟩ := c
  obtain ⟨h1, h2, h3, h4⟩ := hc
  simp only at h1 h2 h3 h4
  have hgl := get_lt h2
  by_cases hi : i < a.length
  ·have e0 := ix i hi
   have m0 : (g ++ [AObj.dead])[h.length]? = some (mapB encI l) := by rw [List.getElem?_append_left hgl]; exact h2
   have M0 : MR rectR 39 (h.length + 1) (g ++ [AObj.dead]) l bl (fun x => begsX (a.take i) x) := h3.keep fun o x _ hx => by rw [List.getElem?_append_left (get_lt hx)]; exact hx
   have hbl : (begsX (a.take i) a[i].x0).length ≤ i := by
    have h1 : (begsX (a.take i) a[i].x0).length ≤ (a.take i).length := List.length_filter_le _ _
    rw [List.length_take] at h1; omega
   obtain ⟨h', bl', ap, M1, hl1, hk1⟩ := M0.add (el := elR) (l0 := 0) (Nat.zero_le _) (by simp; omega) a[i].x0 a[i] (u := lst true [rectR.val a[i]]) rfl (fun h => Rec.cells_tree (R := rectR) rfl [a[i]]) (by show (_ + 1) * 32 ≤ 2 ^ 47; omega)
   have m1 := hk1 _ _ (by omega) m0
   have M1 := M1.congr (begs_snoc hi)
   have lk := lookup_get (P := E.P) (h := g ++ [AObj.dead]) (zv := .slice none 0 0) (k := a[i].x0) keyI m0
   have pm := put_map (P := E.P) (h := h') (lo := 0) (z := some (.slice none 0 0)) (k := a[i].x0) (x := rectR.sl (bl' a[i].x0) (begsX (a.take i) a[i].x0 ++ [a[i]])) keyI m1 (Nat.zero_le _)
   have fz := frz_cell (g := g) a[i]
   have wi : IntKind.i64.wrap ((i : Int) + 1) = ((i + 1 : Nat) : Int) := (wrap64 (by omega) (by omega)).trans (by omega)
   generalize hL : aset l a[i].x0 (rectR.sl (bl' a[i].x0) (begsX (a.take i) a[i].x0 ++ [a[i]])) = l' at *
   have m2 : (h'.set h.length (mapB encI l'))[h.length]? = some (mapB encI l') := by rw [List.getElem?_set_self (get_lt m1)]
   have M2 : MR rectR 39 (h.length + 1) (h'.set h.length (mapB encI l')) l' bl' (fun x => begsX (a.take (i + 1)) x) := M1.keep fun o x ho hx => by rw [List.getElem?_set_ne (by omega)]; exact hx
   have k2 : ∀ o x, o < h.length → h[o]? = some x → (h'.set h.length (mapB encI l'))[o]? = some x := fun o x ho hx => by
    rw [List.getElem?_set_ne (by omega)]
    exact hk1 o x (by omega) (by rw [List.getElem?_append_left (by omega)]; exact h4 o x ho hx)
   rw [rect_val] at e0 ap
   generalize (aget l a[i].x0).getD (.slice none 0 0) = u at *
   generalize rectR.sl (bl' a[i].x0) (begsX (a.take i) a[i].x0 ++ [a[i]]) = v at *
   unfold elR at ap
   unfold encI at lk pm
   have ih := fun vs => ih (i + 1, l', bl', trim g.length vs (h'.set h.length (mapB encI l'))) (by show a.length - (i + 1) < a.length - i; omega) ⟨hi, trim_get hgl m2, M2.trim m2 hgl, fun o x ho hx => trim_get (by omega) (k2 o x ho hx)⟩
   simp -implicitDefEqProofs [k43_3] at ih
   simp -implicitDefEqProofs [r43_3, k43_3, hi, e0, prep_frz, prep_still, fz, rop_loadC, isCp_cptr, lk, lit_rect, ap, pm, wi]
   exact ih _
  ·refine ⟨(l, bl), g, ?_, h2, by rw [List.take_of_length_le (by omega)] at h3; exact h3, h4⟩
   simp -implicitDefEqProofs [r43_3, k43_3, hi, trim_le])
 refine ⟨u.1, u.2, g, ?_, hg⟩
 simp -implicitDefEqProofs [k43_3]
end Go.Proofs.Ytcjdpkifooenkaa.Bm
