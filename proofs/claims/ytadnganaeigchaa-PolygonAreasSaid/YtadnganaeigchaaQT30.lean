/-
 The boundary of a region, cut at more places: a net too. Conditions: none. No program in sight.
-/
import Derived.Test.YtadnganaeigchaaQT29
import Derived.Test.YtadnganaeigchaaQT21
import Derived.Test.YtadnganaeigchaaQT26
namespace Go.Proofs.Ytadnganaeigchaa.Bm
open Go Go.RowKit
open Rg (Rect touchB)
theorem uRL : E.P.underlying 24 = some (.slice 39) := by kernel_rfl
theorem infR : (E.P.info? 39).bind (fun i => i.zero.map fun z => (i.size, z)) = some (4, .agg ⟨[.int .i64 0, .int .i64 0, .int .i64 0, .int .i64 0]⟩) := by kernel_rfl
theorem take_row (C : List Rect) (k : Nat) : (rectR.flat C).take (k * 4) = rectR.flat (C.take k) := by
 by_cases h : k ≤ C.length
 ·exact flat_take (R := rectR) h
 ·have hl : (rectR.flat C).length = C.length * 4 := Rec.flat_len
  rw [List.take_of_length_le (show (rectR.flat C).length ≤ k * 4 by rw [hl]; omega), List.take_of_length_le (show C.length ≤ k by omega)]
theorem drop_row (C : List Rect) (k : Nat) : (rectR.flat C).drop (k * 4) = rectR.flat (C.drop k) := Rec.flat_drop (R := rectR)
theorem clear_row {h : Heap} {b lo off n cap : Nat} {C : List Rect} (hob : h[b]? = some (rectR.row 39 C)) (hlo : lo ≤ b) (h1 : off + n ≤ C.length) :
  aClear E.P h lo #[24] (lsl b off n cap C.length) = some (.tuple #[], h.set b (rectR.row 39 (C.take off ++ List.replicate n zeroR ++ C.drop (off + n)))) := by
 unfold aClear lsl
 simp only [List.getElem?_toArray, List.getElem?_cons_zero, Option.bind_some, uRL]
 have hob' : h[b]? = some (.cells 39 (rectR.flat C) 4) := hob
 by_cases h0 : n = 0
 ·subst h0
  simp only [if_true]
  rw [List.replicate_zero, List.append_nil, Nat.add_zero, List.take_append_drop, set_same hob]
 ·rw [if_neg h0]
  cases hi : E.P.info? 39 with
  | none => have := infR; rw [hi] at this; cases this
  | some i =>
   have e := infR
   rw [hi] at e
   simp only [Option.bind_some] at e ⊢
   cases hz : i.zero with
   | none => rw [hz] at e; cases e
   | some z =>
    rw [hz] at e
    simp only [Option.map_some, Option.some.injEq, Prod.mk.injEq] at e
    obtain ⟨e1, rfl⟩ := e
    simp only [Option.bind_some]
    have hf : fitsRow h ⟨b, off * 4, some (C.length * 4)⟩ i.size = true := by
     unfold fitsRow
     show (match h[b]? with | some (.cells _ c g) => _ | _ => false) = true
     rw [hob', e1]
     simp [stampOk, Rec.flat_len, rectR]
    have hzr : (Builtin.zeroCells (Value.cells (.agg ⟨[.int .i64 0, .int .i64 0, .int .i64 0, .int .i64 0]⟩)) n).toList = rectR.flat (List.replicate n zeroR) := by
     have := Rec.zeros_row (R := rectR) (z := .agg ⟨[.int .i64 0, .int .i64 0, .int .i64 0, .int .i64 0]⟩) (a := zeroR) rfl n
     exact this
    have hfl : flat (Value.agg ⟨[.int .i64 0, .int .i64 0, .int .i64 0, .int .i64 0]⟩) = true := by kernel_rfl
    rw [if_pos (by rw [hfl, hf, e1]; rfl), hzr]
    unfold wrN
    show Option.map _ (match h[b]? with | some (.cells t c g) => _ | _ => none) = _
    rw [hob']
    have hrl : (rectR.flat (List.replicate n zeroR)).length = n * 4 := by rw [Rec.flat_len, List.length_replicate]; rfl
    have hcl : (rectR.flat C).length = C.length * 4 := Rec.flat_len
    show Option.map _ (if _ then _ else none) = _
    rw [if_pos ⟨hlo, by unfold stampOk; rw [hcl]; simp, by rw [hrl]; omega, by rw [hrl, hcl]; show off * 4 + n * 4 ≤ _; omega⟩]
    show some (Value.tuple #[], h.set b (.cells _ (splice (rectR.flat C) (off * 4) (rectR.flat (List.replicate n zeroR))) 4)) = _
    have es : splice (rectR.flat C) (off * 4) (rectR.flat (List.replicate n zeroR)) = rectR.flat (C.take off ++ List.replicate n zeroR ++ C.drop (off + n)) := by
     unfold splice
     rw [hrl, take_row, show off * 4 + n * 4 = (off + n) * 4 by omega, drop_row, ← Rec.flat_app, ← Rec.flat_app]
    rw [es]; rfl
variable {bo : Nat} {O : AObj}
def winL (C : List Rect) (off m : Nat) : List Rect := (C.drop off).take m
def keepL (p : Rect) (C : List Rect) (off m : Nat) : List Rect := (winL C off m).filter fun s => !touchB p s
def takeL (p : Rect) (C : List Rect) (off m : Nat) : List Rect := (winL C off m).filter fun s => touchB p s
def rowL (p : Rect) (C : List Rect) (off m : Nat) : List Rect := C.take off ++ keepL p C off m ++ C.drop (off + (keepL p C off m).length)
theorem win_succ {C : List Rect} {off m : Nat} (h : off + m < C.length) : winL C off (m + 1) = winL C off m ++ [C[off + m]] := by
 unfold winL
 rw [List.take_succ_eq_append_getElem (by rw [List.length_drop]; omega), List.getElem_drop]
theorem win_len {C : List Rect} {off m : Nat} (h : off + m ≤ C.length) : (winL C off m).length = m := by
 unfold winL
 rw [List.length_take, List.length_drop]; omega
theorem keep_len {p : Rect} {C : List Rect} {off m : Nat} (h : off + m ≤ C.length) : (keepL p C off m).length ≤ m := by
 have := List.length_filter_le (fun s => !touchB p s) (winL C off m)
 rw [win_len h] at this; exact this
theorem row_len {p : Rect} {C : List Rect} {off m : Nat} (h : off + m ≤ C.length) : (rowL p C off m).length = C.length := by
 unfold rowL
 have := keep_len (p := p) h
 rw [List.length_append, List.length_append, List.length_take, List.length_drop]; omega
theorem row_get {p : Rect} {C : List Rect} {off m : Nat} (h : off + m < C.length) : (rowL p C off m)[off + m]'(by rw [row_len (by omega)]; exact h) = C[off + m] := by
 have hk := keep_len (p := p) (C := C) (off := off) (m := m) (by omega)
 unfold rowL
 have hl : (C.take off ++ keepL p C off m).length = off + (keepL p C off m).length := by rw [List.length_append, List.length_take]; omega
 rw [List.getElem_append_right (by rw [hl]; omega), List.getElem_drop]
 congr 1
 rw [hl]; omega
theorem keep_touch {p : Rect} {C : List Rect} {off m : Nat} (h : off + m < C.length) (ht : touchB p C[off + m] = true) : keepL p C off (m + 1) = keepL p C off m ∧ takeL p C off (m + 1) = takeL p C off m ++ [C[off + m]] := by
 unfold keepL takeL
 rw [win_succ h, List.filter_append, List.filter_append, List.filter_cons_of_neg (by simp [ht]), List.filter_cons_of_pos ht]
 exact ⟨List.append_nil _, rfl⟩
theorem keep_not {p : Rect} {C : List Rect} {off m : Nat} (h : off + m < C.length) (ht : touchB p C[off + m] = false) : keepL p C off (m + 1) = keepL p C off m ++ [C[off + m]] ∧ takeL p C off (m + 1) = takeL p C off m := by
 unfold keepL takeL
 rw [win_succ h, List.filter_append, List.filter_append, List.filter_cons_of_pos (by simp [ht]), List.filter_cons_of_neg (by simp [ht])]
 exact ⟨rfl, List.append_nil _⟩
theorem row_touch {p : Rect} {C : List Rect} {off m : Nat} (h : off + m < C.length) (ht : touchB p C[off + m] = true) : rowL p C off (m + 1) = rowL p C off m := by
 unfold rowL
 rw [(keep_touch h ht).1]
theorem row_not {p : Rect} {C : List Rect} {off m : Nat} (h : off + m < C.length) (ht : touchB p C[off + m] = false) : (rowL p C off m).set (off + (keepL p C off m).length) C[off + m] = rowL p C off (m + 1) := by
 have hk := keep_len (p := p) (C := C) (off := off) (m := m) (by omega)
 unfold rowL
 rw [(keep_not h ht).1]
 have hl : (C.take off ++ keepL p C off m).length = off + (keepL p C off m).length := by rw [List.length_append, List.length_take]; omega
 rw [List.set_append_right _ _ (by rw [hl]; omega), hl, Nat.sub_self, List.drop_eq_getElem_cons (show off + (keepL p C off m).length < C.length by omega), List.set_cons_zero, List.length_append, List.length_singleton, ← List.append_assoc, List.append_assoc (_ ++ _) [_] _]
 rfl
theorem keep_first {p : Rect} {C : List Rect} {off j : Nat} (h : off + j ≤ C.length) (hf : ∀ k, k < j → ∀ hk : off + k < C.length, touchB p C[off + k] = false) : keepL p C off j = winL C off j ∧ takeL p C off j = [] := by
 have hw : ∀ s ∈ winL C off j, touchB p s = false := fun s hs => by
  obtain ⟨k, hk, rfl⟩ := List.getElem_of_mem hs
  have hk' := hk
  rw [win_len h] at hk'
  have e : (winL C off j)[k] = C[off + k] := by simp [winL]
  rw [e]; exact hf k hk' (by omega)
 unfold keepL takeL
 exact ⟨List.filter_eq_self.2 fun s hs => by simp [hw s hs], List.filter_eq_nil_iff.2 fun s hs => by simp [hw s hs]⟩
theorem row_same {p : Rect} {C : List Rect} {off j : Nat} (h : off + j ≤ C.length) (hk : keepL p C off j = winL C off j) : rowL p C off j = C := by
 unfold rowL
 rw [hk, win_len h]
 unfold winL
 rw [← List.drop_drop, List.append_assoc, List.take_append_drop, List.take_append_drop]
theorem St.put {h : Heap} {bl bc bi : Nat} {C D part : List Rect} {i : Nat} (hS : St bo O h bl bc bi C part i) : St bo O (h.set bl (rectR.row 39 D)) bl bc bi D part i := by
 obtain ⟨h1, h2, ⟨pv, h3, h4⟩, ⟨n1, n2, n3⟩, hb, o1, o2, o3⟩ := hS
 refine ⟨get_setE (lt_of_get h1), get_set h2 (by omega), ⟨pv, get_set h3 (by omega), ?_⟩, ⟨n1, n2, n3⟩, fun n hn => all_set (hb n (by rw [List.length_set] at hn; exact hn)) (Rec.row_bel _), get_set o1 o2, o2, o3⟩
 rcases h4 with rfl | ⟨bp, rfl, hbp, q⟩
 ·exact .inl rfl
 ·exact .inr ⟨bp, rfl, get_set hbp (by omega), q⟩
theorem St.app {h : Heap} {bl bc bi : Nat} {C part : List Rect} {i : Nat} (hS : St bo O h bl bc bi C part i) (o : AObj) (ho : ∀ n, belowO n o = true) : St bo O (h ++ [o]) bl bc bi C part i := by
 obtain ⟨h1, h2, ⟨pv, h3, h4⟩, hn, hb, o1, o2⟩ := hS
 refine ⟨get_app h1, get_app h2, ⟨pv, get_app h3, ?_⟩, hn, fun n hl => by
  rw [List.length_append, List.length_singleton] at hl
  rw [List.all_append, hb n (by omega)]
  show (belowO n o && true) = true
  rw [ho]; rfl, get_app o1, o2⟩
 rcases h4 with rfl | ⟨bp, rfl, hbp, q⟩
 ·exact .inl rfl
 ·exact .inr ⟨bp, rfl, get_app hbp, q⟩
theorem lsl_fits {h : Heap} {bl off : Nat} {D : List Rect} {N : Nat} (hob : h[bl]? = some (rectR.row 39 D)) (hN : D.length = N) : fitsRow h ⟨bl, off * 4, some (N * 4)⟩ 4 = true := by
 have hob' : h[bl]? = some (.cells 39 (rectR.flat D) 4) := hob
 unfold fitsRow
 show (match h[bl]? with | some (.cells _ c g) => _ | _ => false) = true
 rw [hob']
 simp [stampOk, Rec.flat_len, rectR, hN]
theorem lsl_from {h : Heap} {bl off len cap N q : Nat} {D : List Rect} {g : Option Bool} (hob : h[bl]? = some (rectR.row 39 D)) (hN : D.length = N) (hq : q ≤ len) :
  sliceT (.sl 39 ⟨g, some 4⟩) h (lsl bl off len cap N) (some (.int .i64 (q : Int))) none none = some (lsl bl (off + q) (len - q) (cap - q) N) := by
 unfold sliceT lsl
 simp only [Option.bind_some, lsl_fits hob hN, if_true, Option.isSome_none, Option.isNone_none, Bool.false_and, bound]
 rw [if_neg (by decide), if_pos ⟨by omega, by omega⟩]
 simp [rowSl, shift, Nat.add_mul]
theorem lsl_upto {h : Heap} {bl off len cap N q : Nat} {D : List Rect} {g : Option Bool} (hob : h[bl]? = some (rectR.row 39 D)) (hN : D.length = N) (hq : q ≤ cap) :
  sliceT (.sl 39 ⟨g, some 4⟩) h (lsl bl off len cap N) none (some (.int .i64 (q : Int))) none = some (lsl bl off q cap N) := by
 unfold sliceT lsl
 simp only [Option.bind_some, lsl_fits hob hN, if_true, Option.isSome_none, Option.isNone_some, Bool.false_and, bound]
 rw [if_neg (by decide), if_pos ⟨by omega, by omega⟩]
 simp [rowSl, shift]
theorem rop_clear {C : FuncId → List Value → Heap → Nat → Res} {lo : Nat} {ts : Array TypeId} {x : Operand} {ρ : Operand → Value} {h : Heap} : ropR E C lo false (.clear ts x) ρ h = aClear E.P h lo ts (ρ x) := rfl
theorem box_load {h : Heap} {b : Nat} {s : Rect} (hb : h[b]? = some (boxR s)) : loadT ⟨some true, some 4⟩ h (ptr b) = some (rectR.val s) := by
 unfold ptr
 rw [load_agg]
 unfold boxR at hb
 simp [rowOf, hb, stampOk, Rec.val, rectR]
def Deleted (bo : Nat) (O : AObj) (bl bc bi i : Nat) (C part : List Rect) (p : Rect) (off len cap : Nat) (v : Value) (h : Heap) : Prop :=
 ∃ D, D.length = C.length ∧ v = lsl bl off (keepL p C off len).length cap C.length ∧ winL D off (keepL p C off len).length = keepL p C off len ∧ St bo O h bl bc bi D (part ++ takeL p C off len) i
set_option maxHeartbeats 2000000 in
theorem delete {h : Heap} {bl bc bi i off len cap : Nat} {C part : List Rect} (hS : St bo O h bl bc bi C part i) (hip : i < part.length) (hl : part.length + len ≤ 1000000) (hlen : len ≤ cap) (hoff : off + cap ≤ C.length) (hr : okR part[i] = true) (hC : ∀ k, k < len → ∀ hk : off + k < C.length, okR C[off + k] = true) :
  ∃ r, L E 29 [lsl bl off len cap C.length, clo bc bi] h 0 = some r ∧ (Deleted bo O bl bc bi i C part part[i] off len cap r.1 r.2 ∧ h.length ≤ r.2.length) := by
 obtain ⟨⟨v, h1⟩, es, hf, hl1⟩ := search hS hip (by omega) (by omega) (by omega) hr hC (cap := cap)
 simp only at hf hl1
 rw [L_fn F29 rfl]
 rcases hf with ⟨rfl, s1, hn⟩ | ⟨j, hjC, hj, rfl, s1, ht, hn⟩
 ·obtain ⟨ek, et⟩ := keep_first (p := part[i]) (C := C) (off := off) (j := len) (by omega) hn
  have el := win_len (C := C) (off := off) (m := len) (by omega)
  simp -implicitDefEqProofs [r29, p29, ret2 m48, es, -Prod.exists]
  exact ⟨⟨C, rfl, by rw [ek, el], by rw [ek, el], by rw [et, List.append_nil]; exact s1⟩, hl1⟩
 ·have wj : IntKind.i64.wrap ((j : Int) + 1) = ((j + 1 : Nat) : Int) := (wrap64 (by omega) (by omega)).trans (by omega)
  obtain ⟨fk, ft⟩ := keep_first (p := part[i]) (C := C) (off := off) (j := j) (by omega) hn
  obtain ⟨gk, gt⟩ := keep_touch hjC ht
  rw [fk] at gk
  rw [ft, List.nil_append] at gt
  have gl : (keepL part[i] C off (j + 1)).length = j := by rw [gk, win_len (by omega)]
  have gr : rowL part[i] C off (j + 1) = C := by rw [row_touch hjC ht, row_same (by omega) fk]
  have hne : ¬ ((j : Int) = -1) := by omega
  simp -implicitDefEqProofs [r29, p29, ret2 m48, es, lsl_len, wj, -Prod.exists, -Int.natCast_add]
  refine ex_loop (g := fun x => retK _ (seqC _ _ _ _ (blkK _ x) _)) (LL_ex (α := Nat × Heap) (j + 1, h1) (fun c => [(5, .int .i64 ((keepL part[i] C off c.1).length : Int)), (6, .int .i64 (c.1 : Int))]) (fun c => c.2) _
   (fun c => j < c.1 ∧ c.1 ≤ len ∧ St bo O c.2 bl bc bi (rowL part[i] C off c.1) (part ++ takeL part[i] C off c.1) i ∧ h.length ≤ c.2.length) (fun c => len - c.1) ⟨Nat.lt_succ_self _, hj, by rw [gr, gt]; exact s1, hl1⟩ ?_ rfl ?_)
  ·simp -implicitDefEqProofs [k29_5, gl, -Int.natCast_add]
  ·intro nx c hc ih
   obtain ⟨m, h2⟩ := c
   obtain ⟨g0, g1, g2, g3⟩ := hc
   simp only at g0 g1 g2 g3
   have hkl := keep_len (p := part[i]) (C := C) (off := off) (m := m) (by omega)
   have hrl := row_len (p := part[i]) (C := C) (off := off) (m := m) (by omega)
   by_cases hm : m < len
   ·have hmC : off + m < C.length := by omega
    have hm' : (m : Int) < (len : Int) := by omega
    have b1 := lt_of_get g2.left
    have b2 : bc < h2.length := g2.clt
    have b3 := lt_of_get g2.icell
    have wm : IntKind.i64.wrap ((m : Int) + 1) = ((m + 1 : Nat) : Int) := (wrap64 (by omega) (by omega)).trans (by omega)
    have ix := lsl_index (bl := bl) (off := off) (cap := cap) (C := rowL part[i] C off m) hm
    have ld := Rec.load_row (R := rectR) (n := 4) (b := bl) (l := rowL part[i] C off m) (i := off + m) rfl g2.left (by rw [hrl]; exact hmC)
    rw [row_get hmC] at ld
    rw [hrl] at ix
    have sA := g2.app (boxR C[off + m]) (fun n => box_bel n _)
    have hpi : i < (part ++ takeL part[i] C off m).length := by rw [List.length_append]; omega
    have ep : (part ++ takeL part[i] C off m)[i] = part[i] := List.getElem_append_left hip
    have htl : (takeL part[i] C off m).length ≤ m := by
     have := List.length_filter_le (fun s => touchB part[i] s) (winL C off m)
     rw [win_len (by omega)] at this; exact this
    obtain ⟨h3, eg, sg, lg, kg⟩ := gather C[off + m] sA hpi (by rw [List.length_append]; omega) (by rw [ep]; exact hr) (hC m hm hmC)
    rw [ep] at eg sg kg
    have hlA : (h2 ++ [boxR C[off + m]]).length = h2.length + 1 := by simp
    have hcv : ∀ s : Rect, cellsOf (rectR.val s) = some [.int .i64 s.x0, .int .i64 s.y0, .int .i64 s.x1, .int .i64 s.y1] := fun _ => rfl
    have lb := box_load (h := h2 ++ [boxR C[off + m]]) (b := h2.length) (s := C[off + m]) (by simp)
    have lc : touchB part[i] C[off + m] = false → h3[h2.length]? = some (boxR C[off + m]) := fun ht => kg ht h2.length _ (by simp)
    unfold boxR at eg lb lc
    cases ht : touchB part[i] C[off + m]
    ·have lc := lc ht
     have ixq := lsl_index (bl := bl) (off := off) (len := len) (cap := cap) (j := (keepL part[i] C off m).length) (C := C) (by omega)
     rw [ht] at eg sg
     have e0 : part ++ takeL part[i] C off m ++ (if false = true then [C[off + m]] else []) = part ++ takeL part[i] C off m := List.append_nil _
     rw [e0] at sg
     have sr := store_row (R := rectR) (n := 4) (lo := 0) (i := off + (keepL part[i] C off m).length) (a := C[off + m]) rfl sg.left (Nat.zero_le _) (by rw [hrl]; omega)
     rw [row_not hmC ht] at sr
     have eat : rectR.at_ bl (rowL part[i] C off m) (off + (keepL part[i] C off m).length) 0 = rectR.at_ bl C (off + (keepL part[i] C off m).length) 0 := by unfold Rec.at_; rw [hrl]
     rw [eat] at sr
     rw [rect_val] at sr ld lb eg
     obtain ⟨kk, kt⟩ := keep_not hmC ht
     have kl : (keepL part[i] C off (m + 1)).length = (keepL part[i] C off m).length + 1 := by rw [kk, List.length_append, List.length_singleton]
     have wq : IntKind.i64.wrap (((keepL part[i] C off m).length : Int) + 1) = (((keepL part[i] C off m).length + 1 : Nat) : Int) := (wrap64 (by omega) (by omega)).trans (by omega)
     have sp := sg.put (D := rowL part[i] C off (m + 1))
     have s2 := fun vs => sp.trim h2.length vs b1 b2 b3 (lt_of_get g2.oth.1)
     have l2 := fun vs => trim_ge (n := h2.length) (vs := vs) (h := h3.set bl (rectR.row 39 (rowL part[i] C off (m + 1)))) (by rw [List.length_set]; omega)
     have ih := fun vs => ih (m + 1, Bm.trim h2.length vs (h3.set bl (rectR.row 39 (rowL part[i] C off (m + 1))))) (by show len - (m + 1) < len - m; omega) ⟨by show j < m + 1; omega, by show m + 1 ≤ len; omega, by rw [kt]; exact s2 vs, Nat.le_trans g3 (l2 vs)⟩
     simp -implicitDefEqProofs [k29_5, clo, kl, -Prod.exists, -Int.natCast_add] at ih
     simp -implicitDefEqProofs [r29_5, k29_5, lsl_len, hm, hm', ix, ld, clo, hcv, lb, lc, ixq, sr, eg, wm, wq, ret2 m30, -Prod.exists, -Int.natCast_add]
     exact ih _
    ·rw [ht] at eg sg
     have e0 : part ++ takeL part[i] C off m ++ (if true = true then [C[off + m]] else []) = part ++ (takeL part[i] C off m ++ [C[off + m]]) := List.append_assoc _ _ _
     rw [e0] at sg
     rw [rect_val] at ld lb eg
     obtain ⟨kk, kt⟩ := keep_touch hmC ht
     have s2 := fun vs => sg.trim h2.length vs b1 b2 b3 (lt_of_get g2.oth.1)
     have l2 := fun vs => trim_ge (n := h2.length) (vs := vs) (h := h3) (by omega)
     have ih := fun vs => ih (m + 1, Bm.trim h2.length vs h3) (by show len - (m + 1) < len - m; omega) ⟨by show j < m + 1; omega, by show m + 1 ≤ len; omega, by rw [kt, row_touch hmC ht]; exact s2 vs, Nat.le_trans g3 (l2 vs)⟩
     simp -implicitDefEqProofs [k29_5, clo, kk, -Prod.exists, -Int.natCast_add] at ih
     simp -implicitDefEqProofs [r29_5, k29_5, lsl_len, hm, hm', ix, ld, clo, hcv, lb, eg, wm, ret2 m30, -Prod.exists, -Int.natCast_add]
     exact ih _
   ·have hm' : ¬ ((m : Int) < (len : Int)) := by omega
    have em : m = len := by omega
    subst em
    have sf := lsl_from (g := some true) (len := m) (cap := cap) (off := off) g2.left hrl hkl
    have su := fun D (hD : D.length = C.length) => lsl_upto (h := h2.set bl (rectR.row 39 D)) (g := some true) (off := off) (len := m) (cap := cap) (q := (keepL part[i] C off m).length) (get_setE (lt_of_get g2.left)) hD (by omega)
    have cr := clear_row (lo := 0) (off := off + (keepL part[i] C off m).length) (n := m - (keepL part[i] C off m).length) (cap := cap - (keepL part[i] C off m).length) g2.left (Nat.zero_le _) (by rw [hrl]; omega)
    rw [hrl] at cr
    obtain ⟨D, hD⟩ : ∃ D, D = (rowL part[i] C off m).take (off + (keepL part[i] C off m).length) ++ List.replicate (m - (keepL part[i] C off m).length) zeroR ++ (rowL part[i] C off m).drop (off + (keepL part[i] C off m).length + (m - (keepL part[i] C off m).length)) := ⟨_, rfl⟩
    rw [← hD] at cr
    have hDl : D.length = C.length := by
     rw [hD, List.length_append, List.length_append, List.length_take, List.length_replicate, List.length_drop, hrl]; omega
    have su := su D hDl
    have hDw : winL D off (keepL part[i] C off m).length = keepL part[i] C off m := by
     have hl : (C.take off ++ keepL part[i] C off m).length = off + (keepL part[i] C off m).length := by rw [List.length_append, List.length_take]; omega
     have e1 : (rowL part[i] C off m).take (off + (keepL part[i] C off m).length) = C.take off ++ keepL part[i] C off m := by
      unfold rowL
      rw [← hl, List.take_left]
     have hl0 : (C.take off).length = off := by rw [List.length_take]; omega
     unfold winL
     rw [hD, e1, List.append_assoc, List.append_assoc, List.drop_append_of_le_length (by rw [hl0]; exact Nat.le_refl _), List.drop_eq_nil_of_le (show (C.take off).length ≤ off by rw [hl0]; exact Nat.le_refl _), List.nil_append, List.take_left' rfl]
    have sD := g2.put (D := D)
    simp -implicitDefEqProofs [r29_5, k29_5, lsl_len, trim_le, sf, su, rop_clear, cr, -Prod.exists, -Int.natCast_add]
    exact ⟨⟨D, hDl, rfl, hDw, sD⟩, g3⟩
end Go.Proofs.Ytadnganaeigchaa.Bm
namespace Go.Proofs.Ytadnganaeigchaa.Bm
open Go Go.RowKit
open Rg (Rect Slab touchB absorb partsF partsL ofL outT runsF stripsL)
def partR : Rec (List Rect) where
 enc l := [lst false (rectR.vals l)]
 m := 0
 len _ := rfl
 set _ := rfl
 bel _ _ := rfl
def partV (l : List (List Rect)) : List Value := l.map fun m => lst false (rectR.vals m)
theorem parts_flat : ∀ l : List (List Rect), partR.flat l = partV l
 | [] => rfl
 | m :: l => by
  show lst false (rectR.vals m) :: partR.flat l = _
  rw [parts_flat l]; rfl
theorem sR4 : szOf E.P 39 = some 4 := by kernel_rfl
theorem aR4 : aggT E.P 39 = some true := by kernel_rfl
theorem sRs : szOf E.P 24 = some 1 := by kernel_rfl
theorem aRs : aggT E.P 24 = some false := by kernel_rfl
theorem part_reifyR {h : Heap} {b : Nat} {l : List (List Rect)} (hob : h[b]? = some (partR.row 24 l)) : reifyR E.P h (partR.sl b l) = some (lst false (partV l)) := by
 have hs : (partV l).all (settled 8) = true := by unfold partV; simp [List.all_eq_true]
 have e0 : partR.sl b l = .slice (some ⟨b, 0, some l.length⟩) l.length l.length := by unfold Rec.sl; simp [partR]
 show reify E.P 8 h (partR.sl b l) = _
 rw [e0, reify_slice]
 by_cases h0 : l.length = 0
 ·have : l = [] := List.eq_nil_of_length_eq_zero h0
  subst this; rfl
 ·rw [if_neg h0, hob]
  unfold Rec.row
  rw [parts_flat]
  have hl : (partV l).length = l.length := List.length_map _
  show reifyS E.P 7 h (some (.cells 24 (partV l) 1)) _ _ = _
  rw [reifyS_cells, sRs, Option.bind_some, if_pos ⟨by simp [stampOk, hl], Nat.one_pos, by simp [hl]⟩]
  have e : ((partV l).drop 0).take (l.length * 1) = partV l := by rw [List.drop_zero, Nat.mul_one, List.take_of_length_le (by omega)]
  rw [e, reifyC_set hs, Option.bind_some, ← hl, elems_one aRs sRs]; rfl
theorem app_part {h : Heap} {b lo : Nat} {c : List (List Rect)} (m : List Rect) (hob : h[b]? = some (partR.row 24 c)) (hlo : lo ≤ b) (hc : c.length ≤ 1000000) :
  appendT (some ⟨24, 1, 24, .slice none 0 0, ⟨some false, some 1⟩⟩) h lo false (partR.sl b c) (lst true [lst false (rectR.vals m)]) = some (partR.sl b (c ++ [m]), h.set b (partR.row 24 (c ++ [m]))) :=
 Rec.app (R := partR) (m := [m]) rfl hob (cells_lst (by rfl)) hlo (by show (c.length + 1) * 24 ≤ 2 ^ 47; omega)
theorem eq_nil : ∀ (x : Bool) (v : Value) (l : List Value), aBin E.P .eql 24 (lst x (v :: l)) (.slice none 0 0) = some (.bool false)
 | true, v, l => by kernel_rfl
 | false, v, l => by kernel_rfl
theorem app_copy {h : Heap} {lo : Nat} (x : Bool) {a : List Rect} (h0 : a ≠ []) (hl : a.length ≤ 1000000) :
  appendT (some ⟨39, 4, 32, .agg ⟨[.int .i64 0, .int .i64 0, .int .i64 0, .int .i64 0]⟩, ⟨some true, some 4⟩⟩) h lo false (lst true []) (lst x (rectR.vals a)) = some (rectR.sl h.length a, h ++ [rectR.row 39 a]) := by
 have hn : a.length ≠ 0 := fun e => h0 (List.eq_nil_of_length_eq_zero e)
 have hc : sliceCells h 4 (lst x (rectR.vals a)) = some (rectR.flat a, a.length) := Rec.cells_tree (R := rectR) rfl a
 unfold appendT
 simp only [Option.bind_some, hc]
 show (if a.length = 0 then _ else _) = _
 rw [if_neg hn, if_pos ⟨rfl, rfl, by show (0 + a.length) * 32 ≤ 2 ^ 47; omega⟩]
 have hf := Rec.flat_len (R := rectR) (l := a)
 have hm : rectR.m + 1 = 4 := rfl
 unfold Rec.sl Rec.row
 rw [hm] at *
 simp [hf]
 rfl
theorem clone_row (x : Bool) (a : List Rect) (h : Heap) (lo : Nat) (h0 : a ≠ []) (hl : a.length ≤ 1000000) : retCall E (L E) lo false 28 [rectR.o (some x) a] h = some (rectR.sl h.length a, h ++ [rectR.row 39 a]) := by
 have key : L E 28 [rectR.o (some x) a] h lo = some (rectR.sl h.length a, h ++ [rectR.row 39 a]) := by
  have e1 : aBin E.P .eql 24 (lst x (rectR.vals a)) (.slice none 0 0) = some (.bool false) := by
   cases a with
   | nil => exact absurd rfl h0
   | cons r l => exact eq_nil x _ _
  have e2 := fun h => app_copy (h := h) (lo := lo) x h0 hl
  have e3 : ∀ h, buildSliceT (some ⟨39, 4, 32, .agg ⟨[.int .i64 0, .int .i64 0, .int .i64 0, .int .i64 0]⟩, ⟨some true, some 4⟩⟩) false h 0 #[] = some (lst true [], h) := fun h => rfl
  show L E _ [lst x (rectR.vals a)] h lo = _
  rw [L_fn F28 rfl]
  generalize lst x (rectR.vals a) = V at *
  simp -implicitDefEqProofs [r28, p28, padS, e1, e2, e3, -append_lst]
 rw [ret3 m28]
 show ((L E 28 [rectR.o (some x) a] h lo).map _) = _
 rw [key]
 show some (_, trim _ _ _) = _
 rw [trim_no]
 have hn : ¬ (h.length < h.length) := Nat.lt_irrefl _
 exact decide_eq_false hn
theorem trim_no2 {n : Nat} {vs : List Value} {h : Heap} (h2 : vs.all (below 8 n) = false) : trim n vs h = h := by
 unfold trim depth
 split
 ·rfl
 ·rw [h2]; rfl
theorem trim_two {n : Nat} {vs : List Value} {h : Heap} {A B : AObj} (ha : h[0]? = some A) (hb : h[1]? = some B) (hbel : ∀ m, h.length ≤ m → h.all (belowO m) = true) (hv : ∀ m, m ≤ 1 → vs.all (below 8 m) = false) :
  (trim n vs h)[0]? = some A ∧ (trim n vs h)[1]? = some B ∧ ∀ m, (trim n vs h).length ≤ m → (trim n vs h).all (belowO m) = true := by
 by_cases hn : n ≤ 1
 ·rw [trim_no2 (hv n hn)]; exact ⟨ha, hb, hbel⟩
 ·unfold trim
  split
  ·exact ⟨ha, hb, hbel⟩
  split
  ·rename_i hl hc
   rw [Bool.and_eq_true] at hc
   refine ⟨by rw [List.getElem?_take_of_lt (by omega)]; exact ha, by rw [List.getElem?_take_of_lt (by omega)]; exact hb, fun m hm => List.all_eq_true.2 fun o ho => belO_mono (by rw [List.length_take] at hm; omega) (List.all_eq_true.1 hc.2 o ho)⟩
  ·exact ⟨ha, hb, hbel⟩
theorem St.next {bo : Nat} {O : AObj} {h : Heap} {bl bc bi i : Nat} {C part : List Rect} (hS : St bo O h bl bc bi C part i) : St bo O (h ++ [cellV 3 (.int .i64 ((i + 1 : Nat) : Int))]) bl bc h.length C part (i + 1) := by
 obtain ⟨h1, h2, ⟨pv, h3, h4⟩, ⟨n1, n2, n3⟩, hb, o1, o2, o3, o4⟩ := hS
 have q1 := lt_of_get h1
 have q3 := lt_of_get h3
 have q4 := lt_of_get o1
 refine ⟨get_app h1, end0, ⟨pv, get_app h3, ?_⟩, ⟨n1, by omega, by omega⟩, fun n hn => ?_, get_app o1, o2, o3, by omega⟩
 ·rcases h4 with rfl | ⟨bp, rfl, hbp, q, q', _, q''⟩
  ·exact .inl rfl
  ·have := lt_of_get hbp
   exact .inr ⟨bp, rfl, get_app hbp, q, q', by omega, q''⟩
 ·rw [List.length_append, List.length_singleton] at hn
  rw [List.all_append, hb n (by omega)]; rfl
theorem freeze_cell {h : Heap} {bc : Nat} {pv : Value} (h3 : h[bc]? = some (cellV 24 pv)) :
  (settled 8 pv = true → freezeV E.P depth 0 h (ptr bc) = some (cptr pv, h.set bc .dead)) ∧
  ∀ u g, freezeV E.P 7 0 (h.set bc .dead) pv = some (u, g) → settled 8 pv = false → freezeV E.P depth 0 h (ptr bc) = some (cptr u, g) := by
 constructor
 ·intro hs
  show (match h[bc]? with
   | some (.cells t c 0) => _
   | _ => none) = _
  rw [h3]
  show (if _ then _ else _) = _
  rw [if_pos ⟨Nat.zero_le _, rfl, rfl, sRs⟩]
  show Option.bind (if [pv].all (settled 8) = true then _ else _) _ = _
  have e : [pv].all (settled 8) = true := by rw [List.all_cons, hs]; rfl
  rw [e, aRs, if_pos rfl]; rfl
 ·intro u g hf hs
  show (match h[bc]? with
   | some (.cells t c 0) => _
   | _ => none) = _
  rw [h3]
  show (if _ then _ else _) = _
  rw [if_pos ⟨Nat.zero_le _, rfl, rfl, sRs⟩]
  show Option.bind (if [pv].all (settled 8) = true then _ else _) _ = _
  have e : [pv].all (settled 8) = false := by rw [List.all_cons, hs]; rfl
  rw [e, aRs, if_neg Bool.false_ne_true]
  show Option.bind (Option.bind (Option.map _ (freezeV E.P 7 0 (h.set bc .dead) pv)) _) _ = _
  rw [hf]; rfl
theorem part_freeze {bo : Nat} {O : AObj} {h : Heap} {bl bc bi i : Nat} {C part : List Rect} (hS : St bo O h bl bc bi C part i) (hbo : bo = 1) (hbl : bl = 0) : ∃ y g, freezeV E.P depth 0 h (ptr bc) = some (cptr (lst y (rectR.vals part)), g) ∧ g[0]? = h[0]? ∧ g[1]? = h[1]? ∧ (∀ n, g.length ≤ n → g.all (belowO n) = true) := by
 obtain ⟨h1, h2, ⟨pv, h3, h4⟩, ⟨n1, n2, n3⟩, hb, o1, o2, o3, o4⟩ := hS
 subst hbo; subst hbl
 obtain ⟨key1, key2⟩ := freeze_cell h3
 have hd : ∀ n, (h.set bc .dead).length ≤ n → (h.set bc .dead).all (belowO n) = true := fun n hn => all_set (hb n (by rw [List.length_set] at hn; exact hn)) rfl
 rcases h4 with rfl | ⟨bp, rfl, hbp, q1, q2, q3, q4⟩
 ·exact ⟨true, _, key1 rfl, List.getElem?_set_ne (Ne.symm n1), List.getElem?_set_ne (Ne.symm o3), hd⟩
 ·have hf : freezeV E.P 7 0 (h.set bc .dead) (rectR.sl bp part) = some (lst false (rectR.vals part), if part.length = 0 then h.set bc .dead else (h.set bc .dead).set bp .dead) :=
   frz_agg1 (n := 6) (l := rectR.vals part) (s := rectR.m + 1) (get_set hbp q2) sR4 aR4 (Nat.zero_le _) (Rec.vals_flat part).symm Rec.flat_len.symm Rec.vals_len.symm (Nat.succ_pos _) (Rec.vals_agg part) (Rec.flat_set part)
  refine ⟨false, _, key2 _ _ hf rfl, ?_⟩
  by_cases h0 : part.length = 0
  ·rw [if_pos h0]
   exact ⟨List.getElem?_set_ne (Ne.symm n1), List.getElem?_set_ne (Ne.symm o3), hd⟩
  ·rw [if_neg h0]
   exact ⟨(List.getElem?_set_ne q1).trans (List.getElem?_set_ne (Ne.symm n1)), (List.getElem?_set_ne q4).trans (List.getElem?_set_ne (Ne.symm o3)), fun n hn => all_set (hd n (by rw [List.length_set] at hn; exact hn)) rfl⟩
theorem write_row2 {h : Heap} {b lo : Nat} (T : List Slab) (hob : h[b]? = some (slabR.row 92 T)) (hlo : lo ≤ b) (hT : T.length ≤ 10000) (hc : ∀ s ∈ T, s.col.length ≤ 10000) :
  ∃ h', retCall E (L E) lo false 32 [slabR.sl b T] h = some (lst false (rectR.vals (outT (runsF T))), h') ∧ (∀ j, j ≠ b → h'[j]? = h[j]?) ∧ h'.length = h.length ∧ (∀ n, h.all (belowO n) = true → h'.all (belowO n) = true) := by
 obtain ⟨g, f1, l1, n1, u1⟩ := freeze_slab (b := b) (lo := lo) T hob hlo
 refine ⟨g, ?_, n1, l1, u1⟩
 rw [ret4 m32, frzAll_row f1]
 show ((pureCall E.P (L E) 32 [lst false (slabR.vals T)]).map _) = _
 rw [write_spec T hT hc]
 rfl
structure IS where
 off : Nat
 len : Nat
 cap : Nat
 part : List Rect
 i : Nat
 bi : Nat
 h : Heap
structure II (a : List Rect) (O : AObj) (b5 : Nat) (T : List Rect × List Rect) (s : IS) (D : List Rect) : Prop where
 n : D.length = a.length
 oc : s.off + s.cap ≤ a.length
 lc : s.len ≤ s.cap
 st : St 1 O s.h 0 b5 s.bi D s.part s.i
 ip : s.i ≤ s.part.length
 pl : s.part.length + s.len ≤ a.length
 okp : ∀ r ∈ s.part, okR r = true
 okw : ∀ r ∈ winL D s.off s.len, okR r = true
 eq : absorb (a.length + 1) s.i s.part (winL D s.off s.len) = T
theorem win_mem {C : List Rect} {off m k : Nat} (hk : k < m) (h : off + k < C.length) : C[off + k] ∈ winL C off m := by
 unfold winL
 have hl : k < ((C.drop off).take m).length := by rw [List.length_take, List.length_drop]; omega
 have e : ((C.drop off).take m)[k] = C[off + k] := by rw [List.getElem_take, List.getElem_drop]
 rw [← e]
 exact List.getElem_mem hl
theorem absorb_at {n i : Nat} {part left : List Rect} (h : i < part.length) (hp : part.length + left.length ≤ n) : absorb (n + 1) i part left = absorb (n + 1) (i + 1) (part ++ left.filter (touchB part[i])) (left.filter fun s => !touchB part[i] s) := by
 have e : absorb (n + 1) i part left = absorb n (i + 1) (part ++ left.filter (touchB part[i])) (left.filter fun s => !touchB part[i] s) := by
  unfold absorb
  rw [List.getElem?_eq_getElem h]
  cases n <;> rfl
 rw [e]
 have := Rg.filter_both (touchB part[i]) left
 exact (Rg.absorb_more n (n + 1) (i + 1) _ _ (by rw [List.length_append]; omega) (by omega)).symm
theorem absorb_stop {n i : Nat} {part left : List Rect} (h : part.length ≤ i) : absorb (n + 1) i part left = (part, left) := by
 unfold absorb
 rw [List.getElem?_eq_none h]
theorem eq_loop {β : Type} {g : CRes → β} {x : CRes} {w : β} (h : ∃ r, x = some r ∧ g (some r) = w) : g x = w := by
 obtain ⟨r, rfl, h⟩ := h
 exact h
theorem ex_go {g : CRes → CRes} {x : CRes} {P : Exit × Slots × Heap → Prop} (h : ∃ r, x = some r ∧ ∃ v, g (some r) = some v ∧ P v) : ∃ v, g x = some v ∧ P v := by
 obtain ⟨r, rfl, hq⟩ := h
 exact hq
structure OS where
 off : Nat
 len : Nat
 cap : Nat
 done : List (List Rect)
 first : Bool
 h : Heap
structure OI (a : List Rect) (s : OS) (D : List Rect) : Prop where
 n : D.length = a.length
 oc : s.off + s.cap ≤ a.length
 lc : s.len ≤ s.cap
 row : s.h[0]? = some (rectR.row 39 D)
 fst : s.first = true → s.h.length = 1 ∧ s.done = []
 out : s.first = false → s.h[1]? = some (partR.row 24 (s.done.map ofL))
 bel : ∀ n, s.h.length ≤ n → s.h.all (belowO n) = true
 ok : ∀ r ∈ winL D s.off s.len, okR r = true
 eq : partsL a = s.done ++ partsF s.len (winL D s.off s.len)
 dl : s.done.length + s.len ≤ a.length
def outS (first : Bool) (done : List (List Rect)) : Value := if first then .slice none 0 0 else partR.sl 1 (done.map ofL)
theorem newK_out {P : Program} {h : Heap} {σ : Slots} {s b : Nat} {t : TypeId} {l : List (List Rect)} : newK P h σ s t (partR.sl b l) = some (σ, h) := rfl
set_option maxHeartbeats 4000000 in
theorem parts_spec (k : Option Bool) (a : List Rect) (hk : Rec.Ok k a) (h0 : a ≠ []) (ha : a.length ≤ 1000000) : pureCall E.P (L E) 10 [rectR.o k a] = some (if regB a then lst false (partV ((partsL a).map ofL)) else .slice none 0 0) := by
 have hR := right2_spec k a hk ha
 have rf : ∀ h, reify E.P 8 h (rectR.o k a) = some (rectR.o k a) := fun h => Rec.o_reify
 rw [pureCall_fn F10 rfl]
 cases hr : regB a
 ·rw [hr] at hR
  simp -implicitDefEqProofs [r10, p10, ret0 m18, rf, hR]
 rw [hr] at hR
 have hcl := fun x => clone_row x a [] 0 h0 ha
 cases k with
 | none => exact absurd (hk rfl) h0
 | some x =>
  have hcl := hcl x
  have e1 : rectR.sl 0 a = lsl 0 0 a.length a.length a.length := by unfold Rec.sl lsl; rfl
  obtain ⟨hall, hlen, _⟩ := regB_iff.1 hr
  have hw0 : winL a 0 a.length = a := by unfold winL; rw [List.drop_zero, List.take_length]
  simp -implicitDefEqProofs [r10, p10, ret0 m18, rf, hR, hcl, e1]
  refine eq_loop (g := fun x => Option.bind (retK [.tmp 2] (seqC _ _ _ _ (blkK _ x) _)) _) (LL_ex (α := OS) ⟨0, a.length, a.length, [], true, [rectR.row 39 a]⟩ (fun s => [(3, lsl 0 s.off s.len s.cap a.length), (4, outS s.first s.done)]) (fun s => s.h) _ (fun s => ∃ D, OI a s D) (fun s => s.len)
   ⟨a, rfl, by simp, Nat.le_refl _, rfl, fun _ => ⟨rfl, rfl⟩, fun h => absurd h (by show ¬ true = false; decide), fun n _ => by show (belowO n _ && true) = true; rw [Rec.row_bel]; rfl, by rw [hw0]; exact List.all_eq_true.1 hall, by rw [hw0]; rfl, by simp⟩ ?_ rfl ?_)
  ·simp -implicitDefEqProofs [k10_5, outS]
  ·intro nx s hs ih
   obtain ⟨D, hI⟩ := hs
   obtain ⟨off, len, cap, done, first, h⟩ := s
   obtain ⟨i1, i2, i3, i4, i5, i6, i7, i8, i9, i10⟩ := hI
   simp only at i1 i2 i3 i4 i5 i6 i7 i8 i9 i10 ih ⊢
   by_cases hl : 0 < len
   ·have hlen' : (0 : Int) < (len : Int) := by omega
    have hoff : off < D.length := by omega
    have xl : indexAddrT (.sl 39 ⟨some true, some 4⟩) (lsl 0 off len cap a.length) (.int .i64 0) = some (rectR.at_ 0 D off 0) := by
     have := lsl_index (bl := 0) (off := off) (len := len) (cap := cap) (j := 0) (C := D) hl
     rw [i1] at this
     exact this
    obtain ⟨h2, hh2, hl2, hr2, ho2, hb2, hs2⟩ : ∃ h2 : Heap, (if first then h ++ [.cells 24 [] 1] else h) = h2 ∧ 2 ≤ h2.length ∧ h2[0]? = some (rectR.row 39 D) ∧ h2[1]? = some (partR.row 24 (done.map ofL)) ∧ (∀ n, h2.length ≤ n → h2.all (belowO n) = true) ∧ h.length ≤ h2.length := by
     refine ⟨_, rfl, ?_⟩
     cases first
     ·have o1 := i6 rfl
      have := lt_of_get o1
      rw [if_neg Bool.false_ne_true]
      exact ⟨by omega, i4, o1, i7, Nat.le_refl _⟩
     ·obtain ⟨i5a, i5b⟩ := i5 rfl
      subst i5b
      rw [if_pos rfl]
      refine ⟨by rw [List.length_append, i5a]; exact Nat.le_refl _, get_app i4, ?_, fun n hn => ?_, by rw [List.length_append]; omega⟩
      ·rw [List.getElem?_append_right (by omega), i5a]; rfl
      ·rw [List.length_append, List.length_singleton] at hn
       rw [List.all_append, i7 n (by omega)]; rfl
    have ld := Rec.load_row (R := rectR) (n := 4) (b := 0) (l := D) (i := off) rfl hr2 hoff
    rw [rect_val] at ld
    have lf : ∀ h : Heap, h[0]? = some (rectR.row 39 D) → sliceT (.sl 39 ⟨some true, some 4⟩) h (lsl 0 off len cap a.length) (some (.int .i64 1)) none none = some (lsl 0 (off + 1) (len - 1) (cap - 1) a.length) := fun h hh => lsl_from (g := some true) (bl := 0) (off := off) (len := len) (cap := cap) (q := 1) hh i1 (by omega)
    have st5 : ∀ v, cellsOf v = some [v] → storeT (some 1) (h2 ++ [.cells 24 [.slice none 0 0] 0]) 0 v (.pointer (some ⟨h2.length, 0, none⟩)) = some (h2 ++ [cellV 24 v]) := fun v hv => by
     have := cell_store (h := h2 ++ [cellV 24 (.slice none 0 0)]) (b := h2.length) (lo := 0) (t := 24) (u := .slice none 0 0) (v := v) end0 (Nat.zero_le _) hv
     rw [set0] at this
     exact this
    have st6 : ∀ p : AObj, storeT (some 1) (h2 ++ [p, .cells 3 [.int .i64 0] 0]) 0 (.int .i64 0) (.pointer (some ⟨h2.length + 1, 0, none⟩)) = some (h2 ++ [p, cellV 3 (.int .i64 0)]) := fun p => by
     have := cell_store (h := h2 ++ [p, cellV 3 (.int .i64 0)]) (b := h2.length + 1) (lo := 0) (t := 3) (u := .int .i64 0) (v := .int .i64 0) end2 (Nat.zero_le _) rfl
     rw [set2] at this
     exact this
    have lfs := fun q => lf (h2 ++ [q]) (get_app hr2)
    obtain ⟨nh, hnh⟩ : ∃ nh, nh = h.length := ⟨_, rfl⟩
    cases hf : first
    case' false =>
     rw [hf, if_neg Bool.false_ne_true] at hh2
     obtain rfl : h2 = h := hh2.symm
     simp -implicitDefEqProofs [r10_5, k10_5, outS, lsl_len, prep_new, newK_out, hl, hlen', xl, ld, rect_val, lit_rect, lfs, st5, st6, -Prod.exists]
    case' true =>
     rw [hf, if_pos rfl] at hh2
     have e3 : Value.slice (some ⟨h.length, 0, some 0⟩) 0 0 = partR.sl 1 (List.map ofL done) := by
      rw [(i5 hf).1, (i5 hf).2]; rfl
     simp -implicitDefEqProofs [r10_5, k10_5, outS, lsl_len, prep_new, newK_nil sRs, hl, hlen', xl, hh2, ld, rect_val, lit_rect, lfs, st5, st6, e3, -Prod.exists]
    all_goals
     have hwin : winL D off len = D[off] :: winL D (off + 1) (len - 1) := by
      unfold winL
      rw [List.drop_eq_getElem_cons hoff]
      obtain ⟨m, rfl⟩ : ∃ m, len = m + 1 := ⟨len - 1, by omega⟩
      rfl
     have hb5 : ∀ (v w : AObj), (∀ n, belowO n v = true) → (∀ n, belowO n w = true) → ∀ n, (h2 ++ [v, w]).length ≤ n → (h2 ++ [v, w]).all (belowO n) = true := fun v w hv hw n hn => by
      rw [List.length_append] at hn
      have hn : h2.length + 2 ≤ n := hn
      rw [List.all_append, hb2 n (by omega)]
      show (belowO n v && (belowO n w && true)) = true
      rw [hv, hw]; rfl
     have f1 : 0 ≠ h2.length := by omega
     have f2 : 0 ≠ h2.length + 1 := by omega
     have f3 : h2.length ≠ h2.length + 1 := by omega
     have f5 : 1 ≠ h2.length := by omega
     have f6 : 1 ≠ h2.length + 1 := by omega
     refine ex_go (g := fun x => lopK _ _ _ _ (blkK _ (seqC _ _ _ _ (blkK _ x) _))) (LL_ex (α := IS) ⟨off + 1, len - 1, cap - 1, [D[off]], 0, h2.length + 1, h2 ++ [cellV 24 (lst true (rectR.vals [D[off]])), cellV 3 (.int .i64 0)]⟩ (fun s => [(3, lsl 0 s.off s.len s.cap a.length), (6, ptr s.bi)]) (fun s => s.h) _
      (fun s => ∃ D', II a (partR.row 24 (done.map ofL)) h2.length (absorb (a.length + 1) 0 [D[off]] (winL D (off + 1) (len - 1))) s D') (fun s => a.length + 1 - s.i)
      ⟨D, i1, by show off + 1 + (cap - 1) ≤ _; omega, by show len - 1 ≤ cap - 1; omega, ⟨by rw [List.getElem?_append_left (by omega)]; exact hr2, end2, ⟨_, end1, .inl rfl⟩, ⟨f1, f2, f3⟩, hb5 _ _ (fun _ => rfl) (fun _ => rfl), by rw [List.getElem?_append_left (by omega)]; exact ho2, Nat.one_ne_zero, f5, f6⟩, Nat.zero_le _, by show 1 + (len - 1) ≤ _; omega, fun r hr => by
       rw [List.mem_singleton] at hr; subst hr; exact i8 _ (by rw [hwin]; exact List.mem_cons_self ..), fun r hr => i8 r (by rw [hwin]; exact List.mem_cons_of_mem _ hr), rfl⟩ ?_ rfl ?_)
     ·simp -implicitDefEqProofs [k10_9, ptr]
     ·intro nx2 t ht ih2
      obtain ⟨D2, hI⟩ := ht
      obtain ⟨off2, len2, cap2, part, i, bi, h3⟩ := t
      obtain ⟨j1, j2, j3, j4, j5, j6, j7, j8, j9⟩ := hI
      simp only at j1 j2 j3 j4 j5 j6 j7 j8 j9 ih2 ⊢
      have hic := cell_load (sz := some 1) j4.icell
      obtain ⟨pv, hpv, hpv2⟩ := j4.part
      have hpl := cell_load (sz := some 1) hpv
      have lpv : lenT .sl h3 pv = some (.int .i64 part.length) := by
       rcases hpv2 with rfl | ⟨bp, rfl, _⟩
       ·exact Rec.tree_len
       ·exact Rec.sl_len
      by_cases hlt : i < part.length
      ·have hlt' : (i : Int) < (part.length : Int) := by omega
       obtain ⟨⟨rv, h4⟩, hdl, hdel, hlen⟩ := delete j4 hlt (by omega) j3 (by omega) (j7 _ (List.getElem_mem hlt)) (fun k hk hk2 => j8 _ (win_mem hk hk2))
       obtain ⟨D3, d1, d2, d3, d4⟩ := hdel
       simp only at d1 d2 d3 d4 hlen
       subst d2
       rw [j1] at hdl d1
       have hfb := Rg.filter_both (touchB part[i]) (winL D2 off2 len2)
       have hwl := win_len (C := D2) (off := off2) (m := len2) (by omega)
       have ek : keepL part[i] D2 off2 len2 = (winL D2 off2 len2).filter fun s => !touchB part[i] s := rfl
       have et : takeL part[i] D2 off2 len2 = (winL D2 off2 len2).filter (touchB part[i]) := rfl
       have hkl := keep_len (p := part[i]) (C := D2) (off := off2) (m := len2) (by omega)
       have a1 := fun q => cell_load (sz := some 1) (get_app (q := q) d4.icell)
       have a0 := cell_load (sz := some 1) d4.icell
       have sE : ∀ u v, storeT (some 1) (h4 ++ [cellV 3 u]) 0 (.int .i64 v) (ptr h4.length) = some (h4 ++ [cellV 3 (.int .i64 v)]) := fun u v => by
        have := cell_store (h := h4 ++ [cellV 3 u]) (b := h4.length) (lo := 0) (t := 3) (u := u) (v := .int .i64 v) end0 (Nat.zero_le _) rfl
        rw [set0] at this
        exact this
       have lE : ∀ v, loadT ⟨some false, some 1⟩ (h4 ++ [cellV 3 v]) (ptr h4.length) = some v := fun v => cell_load (sz := some 1) end0
       have wi : IntKind.i64.wrap ((i : Int) + 1) = ((i + 1 : Nat) : Int) := (wrap64 (by omega) (by omega)).trans (by omega)
       have hnb : ¬ (h4.length < h3.length) := by omega
       have ih2 := ih2 ⟨off2, (keepL part[i] D2 off2 len2).length, cap2, part ++ takeL part[i] D2 off2 len2, i + 1, h4.length, h4 ++ [cellV 3 (.int .i64 ((i + 1 : Nat) : Int))]⟩ (by show a.length + 1 - (i + 1) < a.length + 1 - i; omega)
        ⟨D3, d1, j2, by show (keepL _ _ _ _).length ≤ cap2; omega, d4.next, by show i + 1 ≤ (part ++ takeL _ _ _ _).length; rw [List.length_append]; omega, by
         show (part ++ takeL _ _ _ _).length + (keepL _ _ _ _).length ≤ _
         rw [List.length_append, ek, et]; omega, fun q hq => by
         rcases List.mem_append.1 hq with hq | hq
         ·exact j7 q hq
         ·exact j8 q (List.mem_filter.1 hq).1, fun q hq => by
         have hq : q ∈ winL D3 off2 (keepL part[i] D2 off2 len2).length := hq
         rw [d3] at hq
         exact j8 q (List.mem_filter.1 hq).1, by
         show absorb (a.length + 1) (i + 1) (part ++ takeL part[i] D2 off2 len2) (winL D3 off2 (keepL part[i] D2 off2 len2).length) = _
         rw [d3, ek, et, ← absorb_at hlt (by omega), j9]⟩
       have ecell : ∀ v, AObj.cells 3 [v] 0 = cellV 3 v := fun _ => rfl
       unfold ptr at hic hpl a0 a1 sE lE
       unfold clo ptr at hdl
       simp -implicitDefEqProofs [k10_9, ptr, -Prod.exists, -Int.natCast_add] at ih2
       simp -implicitDefEqProofs [r10_9, k10_9, ptr, hic, hpl, lpv, hlt, hlt', ret2 m29, hdl, ecell, a0, a1, sE, lE, wi, trim_no2, hnb, -Prod.exists, -Int.natCast_add]
       exact ih2
      ·have hge : ¬ ((i : Int) < (part.length : Int)) := by omega
       obtain ⟨y, g, g1, g2, g3, g4⟩ := part_freeze j4 rfl rfl
       obtain ⟨q1, e1⟩ := strips_one (some y) part Rec.ok_some (by omega) g 0 (Nat.zero_le _) g4
       obtain ⟨h', hw, w1, w2, w3⟩ := write_row2 (h := g ++ [intR.row 3 q1, slabR.row 92 (stripsL part)]) (b := g.length + 1) (lo := 0) (stripsL part) end2 (Nat.zero_le _) (by have := strips_len part; omega) (fun s hs => by have := strips_col part s hs; omega)
       have e : outT (runsF (stripsL part)) = ofL part := rfl
       rw [e] at hw
       unfold ptr at hic hpl g1
       simp -implicitDefEqProofs [r10_9, k10_9, k10_5, r10_5, ptr, hic, hpl, lpv, hlt, hge, -Prod.exists, -Int.natCast_add]
       have l3 := lt_of_get j4.oth.1
       have l0 : 2 ≤ g.length := by
        have : g[1]? = h3[1]? := g3
        rw [j4.oth.1] at this
        have := lt_of_get this
        omega
       have ob : h'[1]? = some (partR.row 24 (done.map ofL)) := by
        rw [w1 1 (by omega), List.getElem?_append_left (by omega), g3]; exact j4.oth.1
       have ol : h'[0]? = some (rectR.row 39 D2) := by
        rw [w1 0 (by omega), List.getElem?_append_left (by omega), g2]; exact j4.left
       have ap := app_part (h := h') (b := 1) (lo := 0) (c := done.map ofL) (ofL part) ob (Nat.zero_le _) (by rw [List.length_map]; omega)
       have li := fun (z : Bool) (l : List Rect) (h : Heap) => lit_list1 (h := h) (k := some z) (l := l)
       unfold Rec.o at e1 li
       simp only at e1 li
       simp -implicitDefEqProofs [r10_5, k10_5, prep_frz, trim_le, g1, li, e1, hw, ap, -Prod.exists, -Int.natCast_add]
       have hW : (winL D (off + 1) (len - 1)).length = len - 1 := win_len (by omega)
       have hT : absorb (len - 1 + 2) 0 [D[off]] (winL D (off + 1) (len - 1)) = (part, winL D2 off2 len2) := by
        rw [← Rg.absorb_more (len - 1 + 2) (a.length + 1) 0 _ _ (by rw [hW, List.length_singleton]; omega) (by omega), ← j9]
        exact absorb_stop (by omega)
       have hTl := Rg.absorb_len (len - 1 + 2) 0 [D[off]] (winL D (off + 1) (len - 1))
       obtain ⟨tt, hTp⟩ := Rg.absorb_part (len - 1 + 2) 0 [D[off]] (winL D (off + 1) (len - 1))
       rw [hT] at hTl hTp
       have hW2 : (winL D2 off2 len2).length = len2 := win_len (by omega)
       rw [hW, hW2, List.length_singleton] at hTl
       have hp1 : 1 ≤ part.length := by
        have hTp : part = [D[off]] ++ tt := hTp
        rw [hTp, List.length_append, List.length_singleton]; omega
       obtain ⟨m, rfl⟩ : ∃ m, len = m + 1 := ⟨len - 1, by omega⟩
       have hl2 : len2 ≤ m := by
        have hTl : part.length + len2 = 1 + (m + 1 - 1) := hTl
        omega
       have heq : partsL a = (done ++ [part]) ++ partsF len2 (winL D2 off2 len2) := by
        rw [i9, hwin]
        show done ++ (absorb ((winL D (off + 1) (m + 1 - 1)).length + 2) 0 [D[off]] (winL D (off + 1) (m + 1 - 1))).1 :: partsF m (absorb ((winL D (off + 1) (m + 1 - 1)).length + 2) 0 [D[off]] (winL D (off + 1) (m + 1 - 1))).2 = _
        rw [hW, hT, List.append_assoc, ← Rg.partsF_more len2 m _ (by omega) hl2]; rfl
       have hal : (h'.set 1 (partR.row 24 ((done.map ofL) ++ [ofL part]))).length = g.length + 2 := by
        rw [List.length_set, w2, List.length_append]; rfl
       have tr := trim_two (n := nh) (vs := blk (rectR.o (some x) a) undef (.slice none 0 0) (lsl 0 off2 len2 cap2 a.length) (partR.sl 1 (List.map ofL done ++ [ofL part])) undef undef (rectR.o (some x) a) (.bool true) (.bool false) (rectR.o (some x) a) (lsl 0 0 a.length a.length a.length) undef undef undef undef (blk undef undef undef undef undef undef undef undef undef undef undef undef undef undef undef undef [undef, undef, undef, undef, undef, undef, undef]))
        (get_set ol Nat.zero_ne_one) (get_setE (q := partR.row 24 ((done.map ofL) ++ [ofL part])) (lt_of_get ob)) (fun n hn => by
         rw [hal] at hn
         refine all_set (w3 n ?_) (Rec.row_bel _)
         rw [List.all_append, g4 n (by omega)]
         show (belowO n (intR.row 3 q1) && (belowO n (slabR.row 92 (stripsL part)) && true)) = true
         rw [Rec.row_bel, Rec.row_bel]; rfl) (fun m hm => by
         refine List.all_eq_false.2 ⟨partR.sl 1 (List.map ofL done ++ [ofL part]), by simp [blk], ?_⟩
         show ¬ (decide (1 < m)) = true
         rw [decide_eq_true_eq]; omega)
       have emap : List.map ofL done ++ [ofL part] = List.map ofL (done ++ [part]) := by rw [List.map_append]; rfl
       rw [← hnh, emap]
       rw [emap] at tr
       revert tr
       generalize trim nh _ _ = H
       intro tr
       have ih := ih ⟨off2, len2, cap2, done ++ [part], false, H⟩ (by show len2 < m + 1; omega) ⟨D2, j1, j2, j3, tr.1, fun h => absurd h Bool.false_ne_true, fun _ => tr.2.1, tr.2.2, j8, heq, by show (done ++ [part]).length + len2 ≤ _; rw [List.length_append, List.length_singleton]; omega⟩
       simp -implicitDefEqProofs [k10_5, outS, -List.map_append, -Prod.exists] at ih
       exact ih
   ·have hl0 : len = 0 := by omega
    subst hl0
    have e2 : partsL a = done := by rw [i9]; show done ++ partsF 0 _ = done; exact List.append_nil _
    cases first
    ·have o1 := i6 rfl
     have rr := part_reifyR o1
     simp -implicitDefEqProofs [r10_5, k10_5, outS, lsl_len, prep_new, newK_out, trim_le, e2, rr]
    ·obtain ⟨i5a, i5b⟩ := i5 rfl
     subst i5b
     simp -implicitDefEqProofs [r10_5, k10_5, outS, lsl_len, prep_new, newK_nil sRs, trim_le, e2]
     rfl
end Go.Proofs.Ytadnganaeigchaa.Bm
namespace Go.Proofs.Ytadnganaeigchaa.Rg
structure Cuts (a : List Rect) (Y : Int → List Int) : Prop where
 asc : ∀ x, (Y x).Pairwise (· < ·)
 full : ∀ {x : Int}, ∀ r ∈ a, (r.x1 = x ∨ r.x0 = x) → r.y0 ∈ Y x ∧ r.y1 ∈ Y x
def colYY (Y : Int → List Int) (a : List Rect) (x : Int) : List Sd := upL x (endsX a x) (begsX a x) (Y x)
def bdY (Y : Int → List Int) (a : List Rect) : List Sd := bdH a ++ (xsB a).flatMap (colYY Y a)
theorem cuts_own (a : List Rect) : Cuts a (ysX a) := ⟨ysX_asc a, fun r hr h => ⟨ysX_mem.2 ⟨r, hr, h, .inl rfl⟩, ysX_mem.2 ⟨r, hr, h, .inr rfl⟩⟩⟩
section
variable {a : List Rect} (ha : Apart a) {Y : Int → List Int} (hY : Cuts a Y)
include ha hY
theorem bdy_mem {s : Sd} : s ∈ bdY Y a ↔ (∃ r ∈ a, s = botR r) ∨ (∃ r ∈ a, s = topR r) ∨
  (∃ x ∈ xsB a, ∃ u v, adjL (Y x) u v ∧ s = ((x, u), (x, v)) ∧ cell a (x - 1) u = true ∧ cell a x u = false) ∨
  (∃ x ∈ xsB a, ∃ u v, adjL (Y x) u v ∧ s = ((x, v), (x, u)) ∧ cell a x u = true ∧ cell a (x - 1) u = false) := by
 have _ := hY
 unfold bdY bdH
 rw [List.mem_append, List.mem_flatMap, List.mem_flatMap]
 constructor
 ·rintro (⟨r, hr, h⟩ | ⟨x, hx, h⟩)
  ·simp only [List.mem_cons, List.not_mem_nil, or_false] at h
   rcases h with h | h
   ·exact .inl ⟨r, hr, h⟩
   ·exact .inr (.inl ⟨r, hr, h⟩)
  ·unfold colYY at h
   rw [up_mem] at h
   obtain ⟨u, v, h1, h2⟩ := h
   rw [left_in_cell ha hx, right_in_cell ha hx] at h2
   rcases h2 with ⟨e, h3, h4⟩ | ⟨e, h3, h4⟩
   ·exact .inr (.inr (.inl ⟨x, hx, u, v, h1, e, h3, h4⟩))
   ·exact .inr (.inr (.inr ⟨x, hx, u, v, h1, e, h3, h4⟩))
 ·rintro (⟨r, hr, rfl⟩ | ⟨r, hr, rfl⟩ | ⟨x, hx, u, v, h1, h2⟩ | ⟨x, hx, u, v, h1, h2⟩)
  ·exact .inl ⟨r, hr, by simp⟩
  ·exact .inl ⟨r, hr, by simp⟩
  ·refine .inr ⟨x, hx, ?_⟩
   unfold colYY
   rw [up_mem]
   refine ⟨u, v, h1, ?_⟩
   rw [left_in_cell ha hx, right_in_cell ha hx]
   exact .inl h2
  ·refine .inr ⟨x, hx, ?_⟩
   unfold colYY
   rw [up_mem]
   refine ⟨u, v, h1, ?_⟩
   rw [left_in_cell ha hx, right_in_cell ha hx]
   exact .inr h2
end
end Go.Proofs.Ytadnganaeigchaa.Rg
