/-
 Chapter 06: the examples of the document. Conditions: none.
-/
import Derived.Test.YtibmcdmlpobanaaGreatQT25
import Derived.Test.YtibmcdmlpobanaaGreatQT20
import Derived.Test.YtibmcdmlpobanaaGreatQT23
namespace Go.Proofs.YtibmcdmlpobanaaGreat.Bm
open Go Go.RowKit
open Rg (Rect touchB)
theorem below_mono : ∀ (d : Nat) {n m : Nat} {v : Value}, n ≤ m → below d n v = true → below d m v = true
 | 0, _, _, _, _, h => absurd h Bool.false_ne_true
 | d + 1, n, m, v, hnm, h => by
  have ih : ∀ l : List Value, l.all (below d n) = true → l.all (below d m) = true := fun l hl => List.all_eq_true.2 fun x hx => below_mono d hnm (List.all_eq_true.1 hl x hx)
  unfold below at h ⊢
  split at h
  ·exact decide_eq_true (by have := of_decide_eq_true h; omega)
  ·exact decide_eq_true (by have := of_decide_eq_true h; omega)
  ·exact decide_eq_true (by have := of_decide_eq_true h; omega)
  ·exact ih _ h
  ·exact ih _ h
  ·rfl
  ·rw [Bool.and_eq_true] at h ⊢; exact ⟨ih _ h.1, ih _ h.2⟩
  ·exact below_mono d hnm h
  ·simp_all
theorem belO_mono {n m : Nat} {o : AObj} (hnm : n ≤ m) (h : belowO n o = true) : belowO m o = true := by
 unfold belowO at h ⊢
 cases o with
 | cells t c g => exact List.all_eq_true.2 fun x hx => below_mono _ hnm (List.all_eq_true.1 h x hx)
 | dead => rfl
 | map es k =>
  refine List.all_eq_true.2 fun x hx => ?_
  have := List.all_eq_true.1 h x hx
  rw [Bool.and_eq_true] at this ⊢
  exact ⟨below_mono _ hnm this.1, below_mono _ hnm this.2⟩
theorem all_set {h : Heap} {f : AObj → Bool} {i : Nat} {o : AObj} (hh : h.all f = true) (ho : f o = true) : (h.set i o).all f = true :=
 List.all_eq_true.2 fun x hx => by
  rcases List.mem_or_eq_of_mem_set hx with q | q
  ·exact List.all_eq_true.1 hh x q
  ·rw [q]; exact ho
theorem box_bel (n : Nat) (s : Rect) : belowO n (boxR s) = true := rfl
structure St (bo : Nat) (O : AObj) (h : Heap) (bl bc bi : Nat) (C part : List Rect) (i : Nat) : Prop where
 left : h[bl]? = some (rectR.row 30 C)
 icell : h[bi]? = some (cellV 3 (.int .i64 i))
 part : ∃ pv, h[bc]? = some (cellV 22 pv) ∧ (pv = lst true (rectR.vals part) ∨ ∃ bp, pv = rectR.sl bp part ∧ h[bp]? = some (rectR.row 30 part) ∧ bp ≠ bl ∧ bp ≠ bc ∧ bp ≠ bi ∧ bp ≠ bo)
 ne : bl ≠ bc ∧ bl ≠ bi ∧ bc ≠ bi
 bel : ∀ n, h.length ≤ n → h.all (belowO n) = true
 oth : h[bo]? = some O ∧ bo ≠ bl ∧ bo ≠ bc ∧ bo ≠ bi
variable {bo : Nat} {O : AObj}
theorem lt_of_get {h : Heap} {b : Nat} {o : AObj} (hb : h[b]? = some o) : b < h.length := (List.getElem?_eq_some_iff.1 hb).1
theorem get_app2 {h : Heap} {p q : AObj} {b : Nat} {o : AObj} (hb : h[b]? = some o) : (h ++ [p, q])[b]? = some o := by
 rw [List.getElem?_append_left (lt_of_get hb), hb]
theorem gather {h : Heap} {bl bc bi i : Nat} {C part : List Rect} (s : Rect) (hS : St bo O h bl bc bi C part i) (hip : i < part.length) (hl : part.length ≤ 1000000) (hr : okR part[i] = true) (hs : okR s = true) :
  ∃ h', L E 38 [rectR.val s, ptr bc, ptr bi] h 0 = some (.bool (touchB part[i] s), h') ∧ St bo O h' bl bc bi C (part ++ if touchB part[i] s then [s] else []) i ∧ h.length ≤ h'.length ∧ (touchB part[i] s = false → ∀ (b : Nat) (o : AObj), h[b]? = some o → h'[b]? = some o) := by
 obtain ⟨h1, h2, ⟨pv, h3, h4⟩, ⟨n1, n2, n3⟩, hb, o1, o2, o3, o4⟩ := hS
 have hb1 : ∀ n, (h ++ [boxR s]).length ≤ n → (h ++ [boxR s]).all (belowO n) = true := fun n hn => by
  rw [List.length_append, List.length_singleton] at hn
  rw [List.all_append, hb n (by omega)]; rfl
 cases ht : touchB part[i] s
 ·refine ⟨_, gather_no s h3 h2 hip (by rcases h4 with rfl | ⟨bp, rfl, hbp, _⟩; exact .inl rfl; exact .inr ⟨bp, rfl, hbp⟩) hr hs ht, ?_, by simp, fun _ b o ho => get_app ho⟩
  have e : part ++ (if false = true then [s] else []) = part := List.append_nil part
  rw [e]
  refine ⟨get_app h1, get_app h2, ⟨pv, get_app h3, ?_⟩, ⟨n1, n2, n3⟩, hb1, get_app o1, o2, o3, o4⟩
  rcases h4 with rfl | ⟨bp, rfl, hbp, q⟩
  ·exact .inl rfl
  ·exact .inr ⟨bp, rfl, get_app hbp, q⟩
 ·have e : part ++ (if true = true then [s] else []) = part ++ [s] := rfl
  rw [e]
  rcases h4 with rfl | ⟨bp, rfl, hbp, q1, q2, q3, q4⟩
  ·refine ⟨_, gather_new s h3 h2 hip hl (Nat.zero_le _) hr hs ht, ?_, by simp, fun h => absurd h (by simp)⟩
   have hlc : (h ++ [boxR s, rectR.row 30 (part ++ [s])]).length = h.length + 2 := by simp
   have b1 := lt_of_get h1
   have b2 := lt_of_get h2
   have b3 := lt_of_get h3
   have b4 := lt_of_get o1
   refine ⟨get_set (get_app2 h1) n1, get_set (get_app2 h2) (Ne.symm n3), ⟨_, get_setE (by rw [hlc]; omega), .inr ⟨h.length + 1, rfl, get_set end2 (by omega), by omega, by omega, by omega, by omega⟩⟩, ⟨n1, n2, n3⟩, fun n hn => by
    rw [List.length_set, hlc] at hn
    refine all_set ?_ ?_
    ·rw [List.all_append, hb n (by omega)]
     show (belowO n (boxR s) && (belowO n (rectR.row 30 (part ++ [s])) && true)) = true
     rw [Rec.row_bel]; rfl
    ·show (below depth n (rectR.sl (h.length + 1) (part ++ [s])) && true) = true
     rw [Bool.and_true]; exact Rec.sl_bel (d := 7) (by omega), get_set (get_app2 o1) o3, o2, o3, o4⟩
  ·refine ⟨_, gather_more s h3 h2 hbp hip hl (Ne.symm q2) (Nat.zero_le _) (Nat.zero_le _) hr hs ht, ?_, by simp, fun h => absurd h (by simp)⟩
   have b3 := lt_of_get h3
   have bb := lt_of_get hbp
   have hlc : ((h ++ [boxR s]).set bp (rectR.row 30 (part ++ [s]))).length = h.length + 1 := by simp
   have hlc1 : (h ++ [boxR s]).length = h.length + 1 := by simp
   refine ⟨get_set (get_set (get_app h1) (Ne.symm q1)) n1, get_set (get_set (get_app h2) (Ne.symm q3)) (Ne.symm n3), ⟨_, get_setE (by rw [hlc]; omega), .inr ⟨bp, rfl, get_set (get_setE (by rw [hlc1]; omega)) q2, q1, q2, q3, q4⟩⟩, ⟨n1, n2, n3⟩, fun n hn => by
    rw [List.length_set, hlc] at hn
    refine all_set (all_set (hb1 n (by rw [hlc1]; exact hn)) (Rec.row_bel _)) ?_
    show (below depth n (rectR.sl bp (part ++ [s])) && true) = true
    rw [Bool.and_true]; exact Rec.sl_bel (d := 7) (by omega), get_set (get_set (get_app o1) (Ne.symm q4)) o3, o2, o3, o4⟩
theorem St.clt {h : Heap} {bl bc bi i : Nat} {C part : List Rect} (hS : St bo O h bl bc bi C part i) : bc < h.length := by
 obtain ⟨pv, q, _⟩ := hS.part
 exact lt_of_get q
theorem St.trim {h : Heap} {bl bc bi i : Nat} {C part : List Rect} (hS : St bo O h bl bc bi C part i) (n : Nat) (vs : List Value) (q1 : bl < n) (q2 : bc < n) (q3 : bi < n) (q4 : bo < n) : St bo O (Bm.trim n vs h) bl bc bi C part i := by
 unfold Bm.trim
 split
 ·exact hS
 split
 ·rename_i hl hc
  rw [Bool.and_eq_true] at hc
  have ht : ∀ {b : Nat} {o : AObj}, b < n → h[b]? = some o → (h.take n)[b]? = some o := fun hb ho => by
   rw [List.getElem?_take_of_lt hb]; exact ho
  obtain ⟨h1, h2, ⟨pv, h3, h4⟩, hn, hb, o1, o2⟩ := hS
  refine ⟨ht q1 h1, ht q3 h2, ⟨pv, ht q2 h3, ?_⟩, hn, fun m hm => List.all_eq_true.2 fun o ho => belO_mono (by rw [List.length_take] at hm; omega) (List.all_eq_true.1 hc.2 o ho), ht q4 o1, o2⟩
  rcases h4 with rfl | ⟨bp, rfl, hbp, qq⟩
  ·exact .inl rfl
  ·have hm := List.all_eq_true.1 hc.2 _ (List.mem_of_getElem? (ht q2 h3))
   have hbn : bp < n := by
    unfold cellV belowO at hm
    simp only [List.all_cons, List.all_nil, Bool.and_true] at hm
    exact of_decide_eq_true hm
   exact .inr ⟨bp, rfl, ht hbn hbp, qq⟩
 ·exact hS
theorem trim_ge {n : Nat} {vs : List Value} {h : Heap} (hn : n ≤ h.length) : n ≤ (Bm.trim n vs h).length := by
 unfold Bm.trim
 split
 ·exact hn
 split
 ·rw [List.length_take]; omega
 ·exact hn
def lsl (bl off len cap N : Nat) : Value := .slice (some ⟨bl, off * 4, some (N * 4)⟩) len cap
def clo (bc bi : Nat) : Value := .func (.func 38) ⟨[]⟩ ⟨[ptr bc, ptr bi]⟩
theorem lsl_len {h : Heap} {bl off len cap n : Nat} : lenT .sl h (lsl bl off len cap n) = some (.int .i64 len) := rfl
theorem lsl_index {bl off len cap j : Nat} {C : List Rect} (hj : j < len) : indexAddrT (.sl 30 ⟨some true, some 4⟩) (lsl bl off len cap C.length) (.int .i64 (j : Int)) = some (rectR.at_ bl C (off + j) 0) := by
 unfold lsl
 rw [index_slice, if_pos ⟨by omega, by omega⟩]
 have e : off * 4 + ((j : Int)).toNat * 4 = (off + j) * (rectR.m + 1) + 0 := by
  show off * 4 + j * 4 = (off + j) * 4 + 0
  omega
 unfold Rec.at_
 rw [← e]; rfl
theorem ex_loop {g : CRes → Option (Value × Heap)} {x : CRes} {P : Value × Heap → Prop} (h : ∃ r, x = some r ∧ ∃ v, g (some r) = some v ∧ P v) : ∃ v, g x = some v ∧ P v := by
 obtain ⟨r, rfl, hq⟩ := h
 exact hq
def Found (bo : Nat) (O : AObj) (bl bc bi i : Nat) (C part : List Rect) (p : Rect) (off len : Nat) (v : Value) (h : Heap) : Prop :=
 (v = .int .i64 (-1) ∧ St bo O h bl bc bi C part i ∧ ∀ k, k < len → ∀ hk : off + k < C.length, touchB p C[off + k] = false) ∨
 ∃ j, ∃ hj : off + j < C.length, j < len ∧ v = .int .i64 (j : Int) ∧ St bo O h bl bc bi C (part ++ [C[off + j]]) i ∧ touchB p C[off + j] = true ∧ ∀ k, k < j → ∀ hk : off + k < C.length, touchB p C[off + k] = false
set_option maxHeartbeats 1000000 in
theorem search {h : Heap} {bl bc bi i off len cap : Nat} {C part : List Rect} (hS : St bo O h bl bc bi C part i) (hip : i < part.length) (hl : part.length ≤ 1000000) (hlen : len ≤ 1000000) (hoff : off + len ≤ C.length) (hr : okR part[i] = true) (hC : ∀ k, k < len → ∀ hk : off + k < C.length, okR C[off + k] = true) :
  ∃ r, L E 62 [lsl bl off len cap C.length, clo bc bi] h 0 = some r ∧ Found bo O bl bc bi i C part part[i] off len r.1 r.2 ∧ h.length ≤ r.2.length := by
 rw [L_fn F62 rfl]
 simp -implicitDefEqProofs [r62, p62, lsl_len, -Prod.exists]
 refine ex_loop (g := fun x => retK _ (seqC _ _ _ _ (blkK _ x) _)) (LL_ex (α := Nat × Heap) (0, h) (fun c => [(8, .int .i64 (c.1 : Int))]) (fun c => c.2) _ (fun c => c.1 ≤ len ∧ St bo O c.2 bl bc bi C part i ∧ h.length ≤ c.2.length ∧ ∀ k, k < c.1 → ∀ hk : off + k < C.length, touchB part[i] C[off + k] = false) (fun c => len - c.1) ⟨Nat.zero_le _, hS, Nat.le_refl _, fun k hk => absurd hk (Nat.not_lt_zero k)⟩ ?_ rfl ?_)
 ·simp -implicitDefEqProofs [k62_2]
 ·intro nx c hc ih
  obtain ⟨j, h1⟩ := c
  obtain ⟨g1, g2, g3, g4⟩ := hc
  simp only at g1 g2 g3 g4
  by_cases hj : j < len
  ·have hjC : off + j < C.length := by omega
   have hj' : (j : Int) < (len : Int) := by omega
   have b1 := lt_of_get g2.left
   have b2 : bc < h1.length := g2.clt
   have b3 := lt_of_get g2.icell
   have wj : IntKind.i64.wrap ((j : Int) + 1) = ((j + 1 : Nat) : Int) := (wrap64 (by omega) (by omega)).trans (by omega)
   have ix := lsl_index (bl := bl) (off := off) (cap := cap) (C := C) hj
   have ld := Rec.load_row (R := rectR) (n := 4) (b := bl) (l := C) (i := off + j) rfl g2.left hjC
   obtain ⟨h2, eg, sg, lg, _⟩ := gather C[off + j] g2 hip hl hr (hC j hj hjC)
   simp -implicitDefEqProofs [r62_2, k62_2, lsl_len, hj, hj', ix, ld, clo, ret2 m38, eg, -Prod.exists]
   cases ht : touchB part[i] C[off + j]
   ·rw [ht] at sg
    have e0 : part ++ (if false = true then [C[off + j]] else []) = part := List.append_nil part
    rw [e0] at sg
    have s2 := fun vs => sg.trim h1.length vs b1 b2 b3 (lt_of_get g2.oth.1)
    have l2 := fun vs => trim_ge (vs := vs) lg
    have ih := fun vs => ih (j + 1, Bm.trim h1.length vs h2) (by show len - (j + 1) < len - j; omega) ⟨by show j + 1 ≤ len; omega, s2 vs, Nat.le_trans g3 (l2 vs), fun k hk hk' => by
     by_cases e : k = j
     ·subst e; exact ht
     ·exact g4 k (by simp only at hk; omega) hk'⟩
    simp -implicitDefEqProofs [k62_2, clo, -Prod.exists] at ih
    simp -implicitDefEqProofs [wj, -Prod.exists]
    exact ih _
   ·rw [ht] at sg
    have e0 : part ++ (if true = true then [C[off + j]] else []) = part ++ [C[off + j]] := rfl
    rw [e0] at sg
    have s2 := fun vs => sg.trim h1.length vs b1 b2 b3 (lt_of_get g2.oth.1)
    have l2 := fun vs => trim_ge (vs := vs) lg
    simp -implicitDefEqProofs [-Prod.exists]
    exact ⟨.inr ⟨j, hjC, hj, rfl, s2 _, ht, fun k hk hk' => g4 k hk hk'⟩, Nat.le_trans g3 (l2 _)⟩
  ·simp -implicitDefEqProofs [r62_2, k62_2, lsl_len, hj, show ¬ ((j : Int) < (len : Int)) by omega, trim_le, -Prod.exists]
   exact ⟨.inl ⟨rfl, g2, fun k hk hk' => g4 k (by omega) hk'⟩, g3⟩
end Go.Proofs.YtibmcdmlpobanaaGreat.Bm
namespace Go.Proofs.YtibmcdmlpobanaaGreat.Bm
open Go Go.RowKit
theorem flat_take {α : Type} {R : Rec α} {l : List α} {i : Nat} (h : i ≤ l.length) : (R.flat l).take (i * (R.m + 1)) = R.flat (l.take i) := by
 have e : R.flat l = R.flat (l.take i) ++ R.flat (l.drop i) := by rw [← Rec.flat_app, List.take_append_drop]
 have hl : (R.flat (l.take i)).length = i * (R.m + 1) := by rw [Rec.flat_len, List.length_take, Nat.min_eq_left h]
 rw [e, ← hl, List.take_left]
theorem flat_splice {α : Type} {R : Rec α} {l : List α} {i : Nat} {a : α} (h : i < l.length) : splice (R.flat l) (i * (R.m + 1)) (R.enc a) = R.flat (l.set i a) := by
 unfold splice
 have e : i * (R.m + 1) + (R.enc a).length = (i + 1) * (R.m + 1) := by rw [R.len, Nat.add_mul, Nat.one_mul]
 rw [e, flat_take (by omega), Rec.flat_drop, List.set_eq_take_append_cons_drop, if_pos h, Rec.flat_app]
 show _ = R.flat (l.take i) ++ (R.enc a ++ R.flat (l.drop (i + 1)))
 rw [List.append_assoc]
theorem store_row {α : Type} {R : Rec α} {h : Heap} {b lo n : Nat} {t : TypeId} {l : List α} {i : Nat} {a : α} (hn : n = R.m + 1) (hob : h[b]? = some (R.row t l)) (hlo : lo ≤ b) (h1 : i < l.length) :
  storeT (some n) h lo (R.val a) (R.at_ b l i 0) = some (h.set b (R.row t (l.set i a))) := by
 subst hn
 unfold Rec.at_
 have hv : cellsOf (R.val a) = some (R.enc a) := rfl
 rw [store_ptr, hv, Option.bind_some, if_pos (by rw [R.len])]
 have hin := Rec.in_row (R := R) h1
 have hob' : h[b]? = some (.cells t (R.flat l) (R.m + 1)) := hob
 unfold wrN
 show (match h[b]? with | some (.cells t c g) => _ | _ => none) = _
 rw [hob']
 show (if _ then _ else none) = _
 rw [if_pos ⟨hlo, by unfold stampOk; rw [Rec.flat_len]; simp, by rw [R.len]; omega, by rw [R.len, Rec.flat_len]; simpa using hin⟩]
 show some (h.set b (.cells t (splice (R.flat l) (i * (R.m + 1) + 0) (R.enc a)) (R.m + 1))) = _
 rw [Nat.add_zero, flat_splice h1]; rfl
namespace Rec
variable {α : Type}
variable {R : Rec α}
end Rec
end Go.Proofs.YtibmcdmlpobanaaGreat.Bm
namespace Go.Proofs.YtibmcdmlpobanaaGreat.Bm
open Go Go.RowKit
open Rg (Rect touchB)
theorem uRL : E.P.underlying 22 = some (.slice 30) := by kernel_rfl
theorem infR : (E.P.info? 30).bind (fun i => i.zero.map fun z => (i.size, z)) = some (4, .agg ⟨[.int .i64 0, .int .i64 0, .int .i64 0, .int .i64 0]⟩) := by kernel_rfl
theorem take_row (C : List Rect) (k : Nat) : (rectR.flat C).take (k * 4) = rectR.flat (C.take k) := by
 by_cases h : k ≤ C.length
 ·exact flat_take (R := rectR) h
 ·have hl : (rectR.flat C).length = C.length * 4 := Rec.flat_len
  rw [List.take_of_length_le (show (rectR.flat C).length ≤ k * 4 by rw [hl]; omega), List.take_of_length_le (show C.length ≤ k by omega)]
theorem drop_row (C : List Rect) (k : Nat) : (rectR.flat C).drop (k * 4) = rectR.flat (C.drop k) := Rec.flat_drop (R := rectR)
theorem clear_row {h : Heap} {b lo off n cap : Nat} {C : List Rect} (hob : h[b]? = some (rectR.row 30 C)) (hlo : lo ≤ b) (h1 : off + n ≤ C.length) :
  aClear E.P h lo #[22] (lsl b off n cap C.length) = some (.tuple #[], h.set b (rectR.row 30 (C.take off ++ List.replicate n zeroR ++ C.drop (off + n)))) := by
 unfold aClear lsl
 simp only [List.getElem?_toArray, List.getElem?_cons_zero, Option.bind_some, uRL]
 have hob' : h[b]? = some (.cells 30 (rectR.flat C) 4) := hob
 by_cases h0 : n = 0
 ·subst h0
  simp only [if_true]
  rw [List.replicate_zero, List.append_nil, Nat.add_zero, List.take_append_drop, set_same hob]
 ·rw [if_neg h0]
  cases hi : E.P.info? 30 with
  | none => have := infR; rw [hi] at this; cases this
  | some i =>
   have e := infR
   rw [hi] at e
   simp only [Option.bind_some] at e ⊢
   cases hz : i.zero with
   | none => rw [hz] at e; cases e
   | some z =>
    rw [hz] at e
    simp only [Option.map_some, Option.some.injEq, Prod.mk.injEq] at e
    obtain ⟨e1, rfl⟩ := e
    simp only [Option.bind_some]
    have hf : fitsRow h ⟨b, off * 4, some (C.length * 4)⟩ i.size = true := by
     unfold fitsRow
     show (match h[b]? with | some (.cells _ c g) => _ | _ => false) = true
     rw [hob', e1]
     simp [stampOk, Rec.flat_len, rectR]
    have hzr : (Builtin.zeroCells (Value.cells (.agg ⟨[.int .i64 0, .int .i64 0, .int .i64 0, .int .i64 0]⟩)) n).toList = rectR.flat (List.replicate n zeroR) := by
     have := Rec.zeros_row (R := rectR) (z := .agg ⟨[.int .i64 0, .int .i64 0, .int .i64 0, .int .i64 0]⟩) (a := zeroR) rfl n
     exact this
    have hfl : flat (Value.agg ⟨[.int .i64 0, .int .i64 0, .int .i64 0, .int .i64 0]⟩) = true := by kernel_rfl
    rw [if_pos (by rw [hfl, hf, e1]; rfl), hzr]
    unfold wrN
    show Option.map _ (match h[b]? with | some (.cells t c g) => _ | _ => none) = _
    rw [hob']
    have hrl : (rectR.flat (List.replicate n zeroR)).length = n * 4 := by rw [Rec.flat_len, List.length_replicate]; rfl
    have hcl : (rectR.flat C).length = C.length * 4 := Rec.flat_len
    show Option.map _ (if _ then _ else none) = _
    rw [if_pos ⟨hlo, by unfold stampOk; rw [hcl]; simp, by rw [hrl]; omega, by rw [hrl, hcl]; show off * 4 + n * 4 ≤ _; omega⟩]
    show some (Value.tuple #[], h.set b (.cells _ (splice (rectR.flat C) (off * 4) (rectR.flat (List.replicate n zeroR))) 4)) = _
    have es : splice (rectR.flat C) (off * 4) (rectR.flat (List.replicate n zeroR)) = rectR.flat (C.take off ++ List.replicate n zeroR ++ C.drop (off + n)) := by
     unfold splice
     rw [hrl, take_row, show off * 4 + n * 4 = (off + n) * 4 by omega, drop_row, ← Rec.flat_app, ← Rec.flat_app]
    rw [es]; rfl
variable {bo : Nat} {O : AObj}
def winL (C : List Rect) (off m : Nat) : List Rect := (C.drop off).take m
def keepL (p : Rect) (C : List Rect) (off m : Nat) : List Rect := (winL C off m).filter fun s => !touchB p s
def takeL (p : Rect) (C : List Rect) (off m : Nat) : List Rect := (winL C off m).filter fun s => touchB p s
def rowL (p : Rect) (C : List Rect) (off m : Nat) : List Rect := C.take off ++ keepL p C off m ++ C.drop (off + (keepL p C off m).length)
theorem win_succ {C : List Rect} {off m : Nat} (h : off + m < C.length) : winL C off (m + 1) = winL C off m ++ [C[off + m]] := by
 unfold winL
 rw [List.take_succ_eq_append_getElem (by rw [List.length_drop]; omega), List.getElem_drop]
theorem win_len {C : List Rect} {off m : Nat} (h : off + m ≤ C.length) : (winL C off m).length = m := by
 unfold winL
 rw [List.length_take, List.length_drop]; omega
theorem keep_len {p : Rect} {C : List Rect} {off m : Nat} (h : off + m ≤ C.length) : (keepL p C off m).length ≤ m := by
 have := List.length_filter_le (fun s => !touchB p s) (winL C off m)
 rw [win_len h] at this; exact this
theorem row_len {p : Rect} {C : List Rect} {off m : Nat} (h : off + m ≤ C.length) : (rowL p C off m).length = C.length := by
 unfold rowL
 have := keep_len (p := p) h
 rw [List.length_append, List.length_append, List.length_take, List.length_drop]; omega
theorem row_get {p : Rect} {C : List Rect} {off m : Nat} (h : off + m < C.length) : (rowL p C off m)[off + m]'(by rw [row_len (by omega)]; exact h) = C[off + m] := by
 have hk := keep_len (p := p) (C := C) (off := off) (m := m) (by omega)
 unfold rowL
 have hl : (C.take off ++ keepL p C off m).length = off + (keepL p C off m).length := by rw [List.length_append, List.length_take]; omega
 rw [List.getElem_append_right (by rw [hl]; omega), List.getElem_drop]
 congr 1
 rw [hl]; omega
theorem keep_touch {p : Rect} {C : List Rect} {off m : Nat} (h : off + m < C.length) (ht : touchB p C[off + m] = true) : keepL p C off (m + 1) = keepL p C off m ∧ takeL p C off (m + 1) = takeL p C off m ++ [C[off + m]] := by
 unfold keepL takeL
 rw [win_succ h, List.filter_append, List.filter_append, List.filter_cons_of_neg (by simp [ht]), List.filter_cons_of_pos ht]
 exact ⟨List.append_nil _, rfl⟩
theorem keep_not {p : Rect} {C : List Rect} {off m : Nat} (h : off + m < C.length) (ht : touchB p C[off + m] = false) : keepL p C off (m + 1) = keepL p C off m ++ [C[off + m]] ∧ takeL p C off (m + 1) = takeL p C off m := by
 unfold keepL takeL
 rw [win_succ h, List.filter_append, List.filter_append, List.filter_cons_of_pos (by simp [ht]), List.filter_cons_of_neg (by simp [ht])]
 exact ⟨rfl, List.append_nil _⟩
theorem row_touch {p : Rect} {C : List Rect} {off m : Nat} (h : off + m < C.length) (ht : touchB p C[off + m] = true) : rowL p C off (m + 1) = rowL p C off m := by
 unfold rowL
 rw [(keep_touch h ht).1]
theorem row_not {p : Rect} {C : List Rect} {off m : Nat} (h : off + m < C.length) (ht : touchB p C[off + m] = false) : (rowL p C off m).set (off + (keepL p C off m).length) C[off + m] = rowL p C off (m + 1) := by
 have hk := keep_len (p := p) (C := C) (off := off) (m := m) (by omega)
 unfold rowL
 rw [(keep_not h ht).1]
 have hl : (C.take off ++ keepL p C off m).length = off + (keepL p C off m).length := by rw [List.length_append, List.length_take]; omega
 rw [List.set_append_right _ _ (by rw [hl]; omega), hl, Nat.sub_self, List.drop_eq_getElem_cons (show off + (keepL p C off m).length < C.length by omega), List.set_cons_zero, List.length_append, List.length_singleton, ← List.append_assoc, List.append_assoc (_ ++ _) [_] _]
 rfl
theorem keep_first {p : Rect} {C : List Rect} {off j : Nat} (h : off + j ≤ C.length) (hf : ∀ k, k < j → ∀ hk : off + k < C.length, touchB p C[off + k] = false) : keepL p C off j = winL C off j ∧ takeL p C off j = [] := by
 have hw : ∀ s ∈ winL C off j, touchB p s = false := fun s hs => by
  obtain ⟨k, hk, rfl⟩ := List.getElem_of_mem hs
  have hk' := hk
  rw [win_len h] at hk'
  have e : (winL C off j)[k] = C[off + k] := by simp [winL]
  rw [e]; exact hf k hk' (by omega)
 unfold keepL takeL
 exact ⟨List.filter_eq_self.2 fun s hs => by simp [hw s hs], List.filter_eq_nil_iff.2 fun s hs => by simp [hw s hs]⟩
theorem row_same {p : Rect} {C : List Rect} {off j : Nat} (h : off + j ≤ C.length) (hk : keepL p C off j = winL C off j) : rowL p C off j = C := by
 unfold rowL
 rw [hk, win_len h]
 unfold winL
 rw [← List.drop_drop, List.append_assoc, List.take_append_drop, List.take_append_drop]
theorem St.put {h : Heap} {bl bc bi : Nat} {C D part : List Rect} {i : Nat} (hS : St bo O h bl bc bi C part i) : St bo O (h.set bl (rectR.row 30 D)) bl bc bi D part i := by
 obtain ⟨h1, h2, ⟨pv, h3, h4⟩, ⟨n1, n2, n3⟩, hb, o1, o2, o3⟩ := hS
 refine ⟨get_setE (lt_of_get h1), get_set h2 (by omega), ⟨pv, get_set h3 (by omega), ?_⟩, ⟨n1, n2, n3⟩, fun n hn => all_set (hb n (by rw [List.length_set] at hn; exact hn)) (Rec.row_bel _), get_set o1 o2, o2, o3⟩
 rcases h4 with rfl | ⟨bp, rfl, hbp, q⟩
 ·exact .inl rfl
 ·exact .inr ⟨bp, rfl, get_set hbp (by omega), q⟩
theorem St.app {h : Heap} {bl bc bi : Nat} {C part : List Rect} {i : Nat} (hS : St bo O h bl bc bi C part i) (o : AObj) (ho : ∀ n, belowO n o = true) : St bo O (h ++ [o]) bl bc bi C part i := by
 obtain ⟨h1, h2, ⟨pv, h3, h4⟩, hn, hb, o1, o2⟩ := hS
 refine ⟨get_app h1, get_app h2, ⟨pv, get_app h3, ?_⟩, hn, fun n hl => by
  rw [List.length_append, List.length_singleton] at hl
  rw [List.all_append, hb n (by omega)]
  show (belowO n o && true) = true
  rw [ho]; rfl, get_app o1, o2⟩
 rcases h4 with rfl | ⟨bp, rfl, hbp, q⟩
 ·exact .inl rfl
 ·exact .inr ⟨bp, rfl, get_app hbp, q⟩
theorem lsl_fits {h : Heap} {bl off : Nat} {D : List Rect} {N : Nat} (hob : h[bl]? = some (rectR.row 30 D)) (hN : D.length = N) : fitsRow h ⟨bl, off * 4, some (N * 4)⟩ 4 = true := by
 have hob' : h[bl]? = some (.cells 30 (rectR.flat D) 4) := hob
 unfold fitsRow
 show (match h[bl]? with | some (.cells _ c g) => _ | _ => false) = true
 rw [hob']
 simp [stampOk, Rec.flat_len, rectR, hN]
theorem lsl_from {h : Heap} {bl off len cap N q : Nat} {D : List Rect} {g : Option Bool} (hob : h[bl]? = some (rectR.row 30 D)) (hN : D.length = N) (hq : q ≤ len) :
  sliceT (.sl 30 ⟨g, some 4⟩) h (lsl bl off len cap N) (some (.int .i64 (q : Int))) none none = some (lsl bl (off + q) (len - q) (cap - q) N) := by
 unfold sliceT lsl
 simp only [Option.bind_some, lsl_fits hob hN, if_true, Option.isSome_none, Option.isNone_none, Bool.false_and, bound]
 rw [if_neg (by decide), if_pos ⟨by omega, by omega⟩]
 simp [rowSl, shift, Nat.add_mul]
theorem lsl_upto {h : Heap} {bl off len cap N q : Nat} {D : List Rect} {g : Option Bool} (hob : h[bl]? = some (rectR.row 30 D)) (hN : D.length = N) (hq : q ≤ cap) :
  sliceT (.sl 30 ⟨g, some 4⟩) h (lsl bl off len cap N) none (some (.int .i64 (q : Int))) none = some (lsl bl off q cap N) := by
 unfold sliceT lsl
 simp only [Option.bind_some, lsl_fits hob hN, if_true, Option.isSome_none, Option.isNone_some, Bool.false_and, bound]
 rw [if_neg (by decide), if_pos ⟨by omega, by omega⟩]
 simp [rowSl, shift]
theorem rop_clear {C : FuncId → List Value → Heap → Nat → Res} {lo : Nat} {ts : Array TypeId} {x : Operand} {ρ : Operand → Value} {h : Heap} : ropR E C lo false (.clear ts x) ρ h = aClear E.P h lo ts (ρ x) := rfl
theorem box_load {h : Heap} {b : Nat} {s : Rect} (hb : h[b]? = some (boxR s)) : loadT ⟨some true, some 4⟩ h (ptr b) = some (rectR.val s) := by
 unfold ptr
 rw [load_agg]
 unfold boxR at hb
 simp [rowOf, hb, stampOk, Rec.val, rectR]
def Deleted (bo : Nat) (O : AObj) (bl bc bi i : Nat) (C part : List Rect) (p : Rect) (off len cap : Nat) (v : Value) (h : Heap) : Prop :=
 ∃ D, D.length = C.length ∧ v = lsl bl off (keepL p C off len).length cap C.length ∧ winL D off (keepL p C off len).length = keepL p C off len ∧ St bo O h bl bc bi D (part ++ takeL p C off len) i
set_option maxHeartbeats 2000000 in
theorem delete {h : Heap} {bl bc bi i off len cap : Nat} {C part : List Rect} (hS : St bo O h bl bc bi C part i) (hip : i < part.length) (hl : part.length + len ≤ 1000000) (hlen : len ≤ cap) (hoff : off + cap ≤ C.length) (hr : okR part[i] = true) (hC : ∀ k, k < len → ∀ hk : off + k < C.length, okR C[off + k] = true) :
  ∃ r, L E 37 [lsl bl off len cap C.length, clo bc bi] h 0 = some r ∧ (Deleted bo O bl bc bi i C part part[i] off len cap r.1 r.2 ∧ h.length ≤ r.2.length) := by
 obtain ⟨⟨v, h1⟩, es, hf, hl1⟩ := search hS hip (by omega) (by omega) (by omega) hr hC (cap := cap)
 simp only at hf hl1
 rw [L_fn F37 rfl]
 rcases hf with ⟨rfl, s1, hn⟩ | ⟨j, hjC, hj, rfl, s1, ht, hn⟩
 ·obtain ⟨ek, et⟩ := keep_first (p := part[i]) (C := C) (off := off) (j := len) (by omega) hn
  have el := win_len (C := C) (off := off) (m := len) (by omega)
  simp -implicitDefEqProofs [r37, p37, ret2 m62, es, -Prod.exists]
  exact ⟨⟨C, rfl, by rw [ek, el], by rw [ek, el], by rw [et, List.append_nil]; exact s1⟩, hl1⟩
 ·have wj : IntKind.i64.wrap ((j : Int) + 1) = ((j + 1 : Nat) : Int) := (wrap64 (by omega) (by omega)).trans (by omega)
  obtain ⟨fk, ft⟩ := keep_first (p := part[i]) (C := C) (off := off) (j := j) (by omega) hn
  obtain ⟨gk, gt⟩ := keep_touch hjC ht
  rw [fk] at gk
  rw [ft, List.nil_append] at gt
  have gl : (keepL part[i] C off (j + 1)).length = j := by rw [gk, win_len (by omega)]
  have gr : rowL part[i] C off (j + 1) = C := by rw [row_touch hjC ht, row_same (by omega) fk]
  have hne : ¬ ((j : Int) = -1) := by omega
  simp -implicitDefEqProofs [r37, p37, ret2 m62, es, lsl_len, wj, -Prod.exists, -Int.natCast_add]
  refine ex_loop (g := fun x => retK _ (seqC _ _ _ _ (blkK _ x) _)) (LL_ex (α := Nat × Heap) (j + 1, h1) (fun c => [(5, .int .i64 ((keepL part[i] C off c.1).length : Int)), (6, .int .i64 (c.1 : Int))]) (fun c => c.2) _
   (fun c => j < c.1 ∧ c.1 ≤ len ∧ St bo O c.2 bl bc bi (rowL part[i] C off c.1) (part ++ takeL part[i] C off c.1) i ∧ h.length ≤ c.2.length) (fun c => len - c.1) ⟨Nat.lt_succ_self _, hj, by rw [gr, gt]; exact s1, hl1⟩ ?_ rfl ?_)
  ·simp -implicitDefEqProofs [k37_5, gl, -Int.natCast_add]
  ·intro nx c hc ih
   obtain ⟨m, h2⟩ := c
   obtain ⟨g0, g1, g2, g3⟩ := hc
   simp only at g0 g1 g2 g3
   have hkl := keep_len (p := part[i]) (C := C) (off := off) (m := m) (by omega)
   have hrl := row_len (p := part[i]) (C := C) (off := off) (m := m) (by omega)
   by_cases hm : m < len
   ·have hmC : off + m < C.length := by omega
    have hm' : (m : Int) < (len : Int) := by omega
    have b1 := lt_of_get g2.left
    have b2 : bc < h2.length := g2.clt
    have b3 := lt_of_get g2.icell
    have wm : IntKind.i64.wrap ((m : Int) + 1) = ((m + 1 : Nat) : Int) := (wrap64 (by omega) (by omega)).trans (by omega)
    have ix := lsl_index (bl := bl) (off := off) (cap := cap) (C := rowL part[i] C off m) hm
    have ld := Rec.load_row (R := rectR) (n := 4) (b := bl) (l := rowL part[i] C off m) (i := off + m) rfl g2.left (by rw [hrl]; exact hmC)
    rw [row_get hmC] at ld
    rw [hrl] at ix
    have sA := g2.app (boxR C[off + m]) (fun n => box_bel n _)
    have hpi : i < (part ++ takeL part[i] C off m).length := by rw [List.length_append]; omega
    have ep : (part ++ takeL part[i] C off m)[i] = part[i] := List.getElem_append_left hip
    have htl : (takeL part[i] C off m).length ≤ m := by
     have := List.length_filter_le (fun s => touchB part[i] s) (winL C off m)
     rw [win_len (by omega)] at this; exact this
    obtain ⟨h3, eg, sg, lg, kg⟩ := gather C[off + m] sA hpi (by rw [List.length_append]; omega) (by rw [ep]; exact hr) (hC m hm hmC)
    rw [ep] at eg sg kg
    have hlA : (h2 ++ [boxR C[off + m]]).length = h2.length + 1 := by simp
    have hcv : ∀ s : Rect, cellsOf (rectR.val s) = some [.int .i64 s.x0, .int .i64 s.y0, .int .i64 s.x1, .int .i64 s.y1] := fun _ => rfl
    have lb := box_load (h := h2 ++ [boxR C[off + m]]) (b := h2.length) (s := C[off + m]) (by simp)
    have lc : touchB part[i] C[off + m] = false → h3[h2.length]? = some (boxR C[off + m]) := fun ht => kg ht h2.length _ (by simp)
    unfold boxR at eg lb lc
    cases ht : touchB part[i] C[off + m]
    ·have lc := lc ht
     have ixq := lsl_index (bl := bl) (off := off) (len := len) (cap := cap) (j := (keepL part[i] C off m).length) (C := C) (by omega)
     rw [ht] at eg sg
     have e0 : part ++ takeL part[i] C off m ++ (if false = true then [C[off + m]] else []) = part ++ takeL part[i] C off m := List.append_nil _
     rw [e0] at sg
     have sr := store_row (R := rectR) (n := 4) (lo := 0) (i := off + (keepL part[i] C off m).length) (a := C[off + m]) rfl sg.left (Nat.zero_le _) (by rw [hrl]; omega)
     rw [row_not hmC ht] at sr
     have eat : rectR.at_ bl (rowL part[i] C off m) (off + (keepL part[i] C off m).length) 0 = rectR.at_ bl C (off + (keepL part[i] C off m).length) 0 := by unfold Rec.at_; rw [hrl]
     rw [eat] at sr
     rw [rect_val] at sr ld lb eg
     obtain ⟨kk, kt⟩ := keep_not hmC ht
     have kl : (keepL part[i] C off (m + 1)).length = (keepL part[i] C off m).length + 1 := by rw [kk, List.length_append, List.length_singleton]
     have wq : IntKind.i64.wrap (((keepL part[i] C off m).length : Int) + 1) = (((keepL part[i] C off m).length + 1 : Nat) : Int) := (wrap64 (by omega) (by omega)).trans (by omega)
     have sp := sg.put (D := rowL part[i] C off (m + 1))
     have s2 := fun vs => sp.trim h2.length vs b1 b2 b3 (lt_of_get g2.oth.1)
     have l2 := fun vs => trim_ge (n := h2.length) (vs := vs) (h := h3.set bl (rectR.row 30 (rowL part[i] C off (m + 1)))) (by rw [List.length_set]; omega)
     have ih := fun vs => ih (m + 1, Bm.trim h2.length vs (h3.set bl (rectR.row 30 (rowL part[i] C off (m + 1))))) (by show len - (m + 1) < len - m; omega) ⟨by show j < m + 1; omega, by show m + 1 ≤ len; omega, by rw [kt]; exact s2 vs, Nat.le_trans g3 (l2 vs)⟩
     simp -implicitDefEqProofs [k37_5, clo, kl, -Prod.exists, -Int.natCast_add] at ih
     simp -implicitDefEqProofs [r37_5, k37_5, lsl_len, hm, hm', ix, ld, clo, hcv, lb, lc, ixq, sr, eg, wm, wq, ret2 m38, -Prod.exists, -Int.natCast_add]
     exact ih _
    ·rw [ht] at eg sg
     have e0 : part ++ takeL part[i] C off m ++ (if true = true then [C[off + m]] else []) = part ++ (takeL part[i] C off m ++ [C[off + m]]) := List.append_assoc _ _ _
     rw [e0] at sg
     rw [rect_val] at ld lb eg
     obtain ⟨kk, kt⟩ := keep_touch hmC ht
     have s2 := fun vs => sg.trim h2.length vs b1 b2 b3 (lt_of_get g2.oth.1)
     have l2 := fun vs => trim_ge (n := h2.length) (vs := vs) (h := h3) (by omega)
     have ih := fun vs => ih (m + 1, Bm.trim h2.length vs h3) (by show len - (m + 1) < len - m; omega) ⟨by show j < m + 1; omega, by show m + 1 ≤ len; omega, by rw [kt, row_touch hmC ht]; exact s2 vs, Nat.le_trans g3 (l2 vs)⟩
     simp -implicitDefEqProofs [k37_5, clo, kk, -Prod.exists, -Int.natCast_add] at ih
     simp -implicitDefEqProofs [r37_5, k37_5, lsl_len, hm, hm', ix, ld, clo, hcv, lb, eg, wm, ret2 m38, -Prod.exists, -Int.natCast_add]
     exact ih _
   ·have hm' : ¬ ((m : Int) < (len : Int)) := by omega
    have em : m = len := by omega
    subst em
    have sf := lsl_from (g := some true) (len := m) (cap := cap) (off := off) g2.left hrl hkl
    have su := fun D (hD : D.length = C.length) => lsl_upto (h := h2.set bl (rectR.row 30 D)) (g := some true) (off := off) (len := m) (cap := cap) (q := (keepL part[i] C off m).length) (get_setE (lt_of_get g2.left)) hD (by omega)
    have cr := clear_row (lo := 0) (off := off + (keepL part[i] C off m).length) (n := m - (keepL part[i] C off m).length) (cap := cap - (keepL part[i] C off m).length) g2.left (Nat.zero_le _) (by rw [hrl]; omega)
    rw [hrl] at cr
    obtain ⟨D, hD⟩ : ∃ D, D = (rowL part[i] C off m).take (off + (keepL part[i] C off m).length) ++ List.replicate (m - (keepL part[i] C off m).length) zeroR ++ (rowL part[i] C off m).drop (off + (keepL part[i] C off m).length + (m - (keepL part[i] C off m).length)) := ⟨_, rfl⟩
    rw [← hD] at cr
    have hDl : D.length = C.length := by
     rw [hD, List.length_append, List.length_append, List.length_take, List.length_replicate, List.length_drop, hrl]; omega
    have su := su D hDl
    have hDw : winL D off (keepL part[i] C off m).length = keepL part[i] C off m := by
     have hl : (C.take off ++ keepL part[i] C off m).length = off + (keepL part[i] C off m).length := by rw [List.length_append, List.length_take]; omega
     have e1 : (rowL part[i] C off m).take (off + (keepL part[i] C off m).length) = C.take off ++ keepL part[i] C off m := by
      unfold rowL
      rw [← hl, List.take_left]
     have hl0 : (C.take off).length = off := by rw [List.length_take]; omega
     unfold winL
     rw [hD, e1, List.append_assoc, List.append_assoc, List.drop_append_of_le_length (by rw [hl0]; exact Nat.le_refl _), List.drop_eq_nil_of_le (show (C.take off).length ≤ off by rw [hl0]; exact Nat.le_refl _), List.nil_append, List.take_left' rfl]
    have sD := g2.put (D := D)
    simp -implicitDefEqProofs [r37_5, k37_5, lsl_len, trim_le, sf, su, rop_clear, cr, -Prod.exists, -Int.natCast_add]
    exact ⟨⟨D, hDl, rfl, hDw, sD⟩, g3⟩
end Go.Proofs.YtibmcdmlpobanaaGreat.Bm
namespace Go.Proofs.YtibmcdmlpobanaaGreat.Bm
open Go Go.RowKit
open Rg (Rect areaL)
def exA : List Rect := [⟨0, 0, 2, 2⟩, ⟨1, 1, 3, 3⟩]
def exW : List Rect := [⟨0, 0, 1, 2⟩, ⟨1, 0, 2, 3⟩, ⟨2, 1, 3, 3⟩]
def exR : List Rect := [⟨0, 0, 1, 3⟩, ⟨1, 0, 2, 1⟩, ⟨1, 2, 2, 3⟩, ⟨2, 0, 3, 3⟩]
set_option maxRecDepth 100000 in
theorem ex_parts : pureCall E.P (L E) 10 [lst true [rectR.val ⟨0, 0, 1, 1⟩, rectR.val ⟨1, 1, 2, 2⟩]] = some (lst false [lst false [rectR.val ⟨0, 0, 1, 1⟩], lst false [rectR.val ⟨1, 1, 2, 2⟩]]) := pureCall_le (evF_L 30) (by kernel_rfl)
set_option maxRecDepth 100000 in
theorem ex_of : pureCall E.P (L E) 5 [lst true (rectR.vals exA)] = some (.tuple ⟨[lst false (rectR.vals exW), .int .i64 0]⟩) := pureCall_le (evF_L 30) (by kernel_rfl)
set_option maxRecDepth 100000 in
theorem ex_minus : pureCall E.P (L E) 9 [lst true (rectR.vals [⟨0, 0, 3, 3⟩]), lst true (rectR.vals [⟨1, 1, 2, 2⟩])] = some (.tuple ⟨[lst false (rectR.vals exR), .int .i64 0]⟩) := pureCall_le (evF_L 30) (by kernel_rfl)
set_option maxRecDepth 100000 in
theorem ex_area : pureCall E.P (L E) 11 [lst true (rectR.vals exW)] = some (.int .i64 7) := pureCall_le (evF_L 30) (by kernel_rfl)
set_option maxRecDepth 100000 in
theorem ex_nil : pureCall E.P (L E) 12 [.slice none 0 0] = some (.bool true) := pureCall_le (evF_L 30) (by kernel_rfl)
set_option maxRecDepth 100000 in
theorem ex_bad : pureCall E.P (L E) 12 [lst true (rectR.vals [⟨3, 0, 3, 1⟩])] = some (.bool false) := pureCall_le (evF_L 30) (by kernel_rfl)
def V4 (a b c d : Int) : Value := .agg ⟨[.int .i64 a, .int .i64 b, .int .i64 c, .int .i64 d]⟩
def elR : El := ⟨30, 4, 32, .agg ⟨[.int .i64 0, .int .i64 0, .int .i64 0, .int .i64 0]⟩, ⟨some true, some 4⟩⟩
theorem lits1 (h : Heap) (p : Rect) : buildSliceT (some elR) false h 1 #[(0, rectR.val p)] = some (lst true (rectR.vals [p]), h) :=
 (build_lit' (n := 1) (l := [(0, rectR.val p)]) rfl rfl (by decide) (by decide) (by decide)).trans rfl
theorem lits2 (h : Heap) (p q : Rect) : buildSliceT (some elR) false h 2 #[(0, rectR.val p), (1, rectR.val q)] = some (lst true (rectR.vals [p, q]), h) :=
 (build_lit' (n := 2) (l := [(0, rectR.val p), (1, rectR.val q)]) rfl rfl (by decide) (by decide) (by decide)).trans rfl
theorem lits3 (h : Heap) (p q r : Rect) : buildSliceT (some elR) false h 3 #[(0, rectR.val p), (1, rectR.val q), (2, rectR.val r)] = some (lst true (rectR.vals [p, q, r]), h) :=
 (build_lit' (n := 3) (l := [(0, rectR.val p), (1, rectR.val q), (2, rectR.val r)]) rfl rfl (by decide) (by decide) (by decide)).trans rfl
theorem lits4 (h : Heap) (p q r s : Rect) : buildSliceT (some elR) false h 4 #[(0, rectR.val p), (1, rectR.val q), (2, rectR.val r), (3, rectR.val s)] = some (lst true (rectR.vals [p, q, r, s]), h) :=
 (build_lit' (n := 4) (l := [(0, rectR.val p), (1, rectR.val q), (2, rectR.val r), (3, rectR.val s)]) rfl rfl (by decide) (by decide) (by decide)).trans rfl
theorem frz_lst (h : Heap) (x : Bool) (l : List Rect) : freezeV E.P depth 0 h (lst x (rectR.vals l)) = some (lst x (rectR.vals l), h) := frz_set8 rfl rfl
theorem small_spec : pureCall E.P (L E) 4 [] = some (.bool true) := by
 have a1 := fun h => lits2 h ⟨0, 0, 2, 2⟩ ⟨1, 1, 3, 3⟩
 have a2 := fun h => lits1 h ⟨0, 0, 3, 3⟩
 have a3 := fun h => lits1 h ⟨1, 1, 2, 2⟩
 have a4 := fun h => lits2 h ⟨0, 0, 1, 1⟩ ⟨1, 1, 2, 2⟩
 have a5 := fun h => lits3 h ⟨0, 0, 1, 2⟩ ⟨1, 0, 2, 3⟩ ⟨2, 1, 3, 3⟩
 have a6 := fun h => lits4 h ⟨0, 0, 1, 3⟩ ⟨1, 0, 2, 1⟩ ⟨1, 2, 2, 3⟩ ⟨2, 0, 3, 3⟩
 have a7 := fun h => lits1 h ⟨3, 0, 3, 1⟩
 simp only [elR, rect_val] at a1 a2 a3 a4 a5 a6 a7
 have c1 := ex_of
 have c2 := ex_minus
 have c3 := ex_parts
 have c4 := ex_area
 have c5 := ex_nil
 have c6 := ex_bad
 have c7 := same_rects (some false) (some true) exW exW Rec.ok_some Rec.ok_some (by decide)
 have c8 := same_rects (some false) (some true) exR exR Rec.ok_some Rec.ok_some (by decide)
 have fz : ∀ h, frzAll E.P 0 [lst true (rectR.vals exA)] h = some ([lst true (rectR.vals exA)], h) := fun h => frzAll_row (frz_lst h true exA)
 simp only [exA, exW, exR, rect_val, Rec.o, decide_true] at c1 c2 c3 c4 c5 c6 c7 c8 fz
 have so : ∀ b l, settled depth (lst b (rectR.vals l)) = true := fun _ _ => rfl
 have so2 : settled depth (lst true [Value.agg ⟨[.int .i64 0, .int .i64 0, .int .i64 1, .int .i64 1]⟩, Value.agg ⟨[.int .i64 1, .int .i64 1, .int .i64 2, .int .i64 2]⟩]) = true := rfl
 have rl : ∀ h b l, reify E.P 8 h (lst b (rectR.vals l)) = some (lst b (rectR.vals l)) := fun _ _ _ => rfl
 have vv : [Value.agg ⟨[.int .i64 0, .int .i64 0, .int .i64 1, .int .i64 1]⟩, Value.agg ⟨[.int .i64 1, .int .i64 1, .int .i64 2, .int .i64 2]⟩] = rectR.vals [⟨0, 0, 1, 1⟩, ⟨1, 1, 2, 2⟩] := rfl
 rw [vv] at c3
 rw [pureCall_fn F4 rfl]
 simp -implicitDefEqProofs [r4, p4, b4_all, a1, a2, a3, a4, a5, a6, a7, ret4 m5, fz, c1, ret1 m9, so, c2, ret1 m10, c3, ret0 m7, ret0 m11, ret0 m12, rl, c7, c8, c4, c5, c6]
end Go.Proofs.YtibmcdmlpobanaaGreat.Bm
