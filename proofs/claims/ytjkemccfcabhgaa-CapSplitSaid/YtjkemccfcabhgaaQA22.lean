/-
  Chapter 32: lists that become rows with their first element. Conditions: none.
-/
import Derived.Test.YtjkemccfcabhgaaQA21
import Derived.Test.YtjkemccfcabhgaaQA18
namespace Go.Proofs.Ytjkemccfcabhgaa.Bm
open Go Go.RowKit
open Rg (Rect Pt)
open Cw (top pre stp allS pre_len stp_len IsMax)
def runS (b : Bool) (S : List Int) : List (List Int) → Bool × List Int × Bool
  | [] => (b, S, true)
  | l :: ls => if 4096 < S.length * (l.length + 1) then (b, S, false) else runS false (stp S l) ls
theorem runS_nil (b : Bool) (S : List Int) : runS b S [] = (b, S, true) := rfl
theorem runS_cons (b : Bool) (S l : List Int) (ls : List (List Int)) : runS b S (l :: ls) = if 4096 < S.length * (l.length + 1) then (b, S, false) else runS false (stp S l) ls := rfl
structure RsTiny (k : Option Bool) (l : List Rt) : Prop where
  few : RsFew k l
  len : l.length ≤ 10
  ph : ∀ r ∈ l, r.ph.length ≤ 20
def bndW (S : List Int) (i : Nat) : Prop := ∀ x ∈ S, -((20 * (i : Int) + 1) * 2199023255552000) ≤ x ∧ x ≤ (20 * (i : Int) + 1) * 2199023255552000
structure StOk (S : List Int) (i : Nat) : Prop where
  ne : S ≠ []
  len : S.length ≤ 4096
  b : bndW S i
theorem runS_ok : ∀ (ls : List (List Int)) {b : Bool} {S : List Int}, S ≠ [] → S.length ≤ 4096 → (runS b S ls).2.1 ≠ [] ∧ (runS b S ls).2.1.length ≤ 4096
  | [], _, _, h1, h2 => ⟨h1, h2⟩
  | l :: ls, b, S, h1, h2 => by
    rw [runS_cons]
    split
    · exact ⟨h1, h2⟩
    · rename_i q
      exact runS_ok ls (by unfold stp; simp [h1]) (by rw [stp_len]; omega)
def bndJ (n : Int) (i j : Nat) : Prop := -((20 * (i : Int) + 1 + j) * 2199023255552000) ≤ n ∧ n ≤ (20 * (i : Int) + 1 + j) * 2199023255552000
theorem bndJ_step {z w : Int} {i j : Nat} (h : bndJ z i j) (h1 : -2199023255552000 ≤ w) (h2 : w ≤ 2199023255552000) : bndJ (z + w) i (j + 1) := by
  unfold bndJ at *
  constructor <;> omega
theorem bndJ_le {z : Int} {i j : Nat} (h : bndJ z i j) (hi : i ≤ 10) (hj : j ≤ 20) : -2199023255552000000 ≤ z ∧ z ≤ 2199023255552000000 := by
  unfold bndJ at h
  omega
theorem bndW_stp {S l : List Int} {i : Nat} (h : bndW S i) (hl : l.length ≤ 20) (h1 : ∀ x ∈ l, -2199023255552000 ≤ x) (h2 : ∀ x ∈ l, x ≤ 2199023255552000) : bndW (stp S l) (i + 1) := by
  have key : ∀ (l : List Int) (j : Nat), l.length + j ≤ 20 → (∀ x ∈ l, -2199023255552000 ≤ x) → (∀ x ∈ l, x ≤ 2199023255552000) → ∀ n, bndJ n i j → ∀ x ∈ pre n l, bndJ x i 20 := by
    intro l
    induction l with
    | nil => intro j _ _ _ n _ x hx; cases hx
    | cons a l ih =>
      intro j hj k1 k2 n hn x hx
      have hs := bndJ_step hn (k1 a List.mem_cons_self) (k2 a List.mem_cons_self)
      rw [List.length_cons] at hj
      rcases List.mem_cons.1 hx with rfl | hx
      · unfold bndJ at *
        constructor <;> omega
      · exact ih (j + 1) (by omega) (fun x hx => k1 x (List.mem_cons_of_mem _ hx)) (fun x hx => k2 x (List.mem_cons_of_mem _ hx)) _ hs x hx
  intro x hx
  unfold stp at hx
  rcases List.mem_append.1 hx with hx | hx
  · have := h x hx
    constructor <;> omega
  · obtain ⟨n, hn, hx⟩ := List.mem_flatMap.1 hx
    have hb := h n hn
    have := key l 0 (by omega) h1 h2 n (by unfold bndJ; constructor <;> omega) x hx
    unfold bndJ at this
    constructor <;> omega
set_option maxHeartbeats 4000000 in
theorem worst_spec (t : Tw) (ht : TwFew t) (c : Cc) (hc : c.cs.length ≤ 1000000) (k : Option Bool) (l : List Rt) (hl : RsTiny k l) : pureCall E.P (L E) 8 [twV t, rtR.o k l, ccV c] =
    some (match (runS true [loadT32 t c] (l.map (loadsR t.p.ts c))).2 with | (S, true) => .tuple ⟨[.int .i64 (maxF (S.headD 0) S.tail), .int .i64 0]⟩ | (_, false) => .tuple ⟨[.int .i64 0, .int .i64 6]⟩) := by
  have hload := loadT_spec t ht c hc
  have htr := fun h => tw_reify t h
  have hls := loads_spec t.p ht.p c hc
  have hlk := hl.few.k
  have ll := fun h => Rec.o_len (R := rtR) (h := h) hlk
  have il := fun (i : Nat) (hi : i < l.length) => Rec.o_index (R := rtR) (s := 7) (t := 58) (kk := .i64) rfl hlk hi
  have sp := pn_settled t.p
  have sc : settled depth (lst c.x (spanR.vals c.cs)) = true := rfl
  have scc : settled depth (ccV c) = true := rfl
  have b1 : ∀ d n, below (d + 1) n (tbR.o t.p.kt t.p.ts) = true := fun d n => Rec.o_bel
  have b2 : ∀ d n, below (d + 1) n (rtR.o k l) = true := fun d n => Rec.o_bel
  have b3 : ∀ d n, below (d + 1) n (pdR.o t.kb t.bs) = true := fun d n => Rec.o_bel
  have b4 : ∀ d n, below (d + 1) n (entR.o t.ke t.es) = true := fun d n => Rec.o_bel
  have ob : ∀ d n o, below (d + 1) n (opV o) = true := fun d n o => op_bel
  have hlen := hl.len
  have hlb := loadT_in c ht.lb ht.le
  rw [pureCall_fn F8 rfl]
  unfold ccV ccC twV twC pnV pnC at *
  generalize tbR.o t.p.kt t.p.ts = VT at *
  generalize pdR.o t.kb t.bs = VB at *
  generalize entR.o t.ke t.es = VE at *
  generalize rtR.o k l = VL at *
  generalize loadT32 t c = n0 at *
  have lt0 := fun h => lit_int h n0
  simp -implicitDefEqProofs [r8, p8, ret0 m10, hload, htr, lt0, ll]
  have es : lst true (intE.vals [n0]) = intE.o (some true) [n0] := rfl
  rw [es]
  rw [LL_for (γ := Bool × List Int) l (true, [n0]) (fun i a => [(8, intE.o (some a.1) a.2), (23, .int .i64 i)]) (fun _ _ => [twO t VT VB VE, ccO c]) (fun i rest a => match (runS a.1 a.2 (rest.map (loadsR t.p.ts c))) with | (b, S, true) => (.exit 0, [(8, intE.o (some b) S), (23, undef)], [twO t VT VB VE, ccO c]) | (b, S, false) => (.ret, [(6, .int .i64 0), (7, .int .i64 6), (8, intE.o (some b) S), (23, undef)], [twO t VT VB VE, ccO c])) (fun i a => StOk a.2 i) (by omega) ⟨by simp, by simp, fun x hx => by simp at hx; subst hx; omega⟩]
  · obtain ⟨r1, r2⟩ := runS_ok (l.map (loadsR t.p.ts c)) (b := true) (S := [n0]) (by simp) (by simp)
    dsimp only
    generalize runS true [n0] (l.map (loadsR t.p.ts c)) = R at *
    obtain ⟨b, S, ok⟩ := R
    simp only at r1 r2
    obtain ⟨s0, S', rfl⟩ : ∃ s0 S', S = s0 :: S' := by
      cases S with
      | nil => exact absurd rfl r1
      | cons a S => exact ⟨a, S, rfl⟩
    rw [List.length_cons] at r2
    have mx := max_spec (some b) s0 S' Enc.ok_some (by omega)
    have rI : ∀ h, reify E.P 8 h (intE.o (some b) (s0 :: S')) = some (intE.o (some b) (s0 :: S')) := fun h => Enc.o_reify
    cases ok
    · simp -implicitDefEqProofs [k8_3]
      done
    · simp -implicitDefEqProofs [k8_3, ret0 m24, mx, rI]
      done
  · simp -implicitDefEqProofs [k8_3]
    done
  · rfl
  · intro nx i a hi _
    show _ = fin _ (.exit 0, [(8, intE.o (some a.1) a.2), (23, undef)], [twO t VT VB VE, ccO c])
    unfold twO ccO
    simp -implicitDefEqProofs [r8_3, k8_3, hi, trim_le]
    done
  · intro nx i v rest a hi hv hd hw ha ih
    obtain ⟨b, S⟩ := a
    obtain ⟨s0, S', rfl⟩ : ∃ s0 S', S = s0 :: S' := by
      cases S with
      | nil => exact absurd rfl ha.ne
      | cons a S => exact ⟨a, S, rfl⟩
    have hi2 : ((i : Int) < l.length) := by omega
    have x1 := il i hi
    have hm : v ∈ l := by rw [← hv]; exact List.getElem_mem hi
    have hs := hls v (hl.few.r v hm)
    have hsm := loadsR_small t.p.ts c (hl.few.r v hm)
    have hl20 : (loadsR t.p.ts c v).length ≤ 20 := by
      unfold loadsR leftR
      have := hl.ph v hm
      rw [List.length_map]
      split
      · rw [List.length_drop]; omega
      · simp
    have hvs := rt_settled v
    rw [hv] at x1
    rw [rt_val] at x1 hs hvs
    rw [List.map_cons, runS_cons]
    have eI : lst false (intE.vals (loadsR t.p.ts c v)) = intE.o (some false) (loadsR t.p.ts c v) := rfl
    rw [eI] at hs
    generalize loadsR t.p.ts c v = lv at *
    have lnv := fun h => Enc.o_len (O := intE) (h := h) (k := some false) (l := lv) Enc.ok_some
    have lns := fun h => Enc.o_len (O := intE) (h := h) (k := some b) (l := s0 :: S') Enc.ok_some
    have clo := cloI_spec b s0 S' (by have := ha.len; simp only at this; omega)
    have b6 : ∀ d n, below (d + 1) n (phR.o v.kp v.ph) = true := fun d n => Rec.o_bel
    generalize phR.o v.kp v.ph = V1 at *
    unfold twO ccO at *
    have n1 : ¬ (4096 : Int) ≤ (lv.length : Int) := by omega
    have w1 : IntKind.i64.wrap ((lv.length : Int) + 1) = (lv.length : Int) + 1 := wrap64 (by omega) (by omega)
    have w2 : IntKind.i64.wrap (((s0 :: S').length : Int) * ((lv.length : Int) + 1)) = (((s0 :: S').length * (lv.length + 1) : Nat) : Int) := by
      have h1 : (s0 :: S').length * (lv.length + 1) ≤ 4096 * 21 := Nat.mul_le_mul ha.len (by omega)
      rw [show ((s0 :: S').length : Int) * ((lv.length : Int) + 1) = (((s0 :: S').length * (lv.length + 1) : Nat) : Int) by rw [Int.natCast_mul]; rfl]
      exact wrap64 (by omega) (by omega)
    by_cases q : 4096 < (s0 :: S').length * (lv.length + 1)
    · have q2 : (4096 : Int) < (((s0 :: S').length * (lv.length + 1) : Nat) : Int) := by omega
      rw [if_pos q]
      generalize (s0 :: S').length * (lv.length + 1) = m at *
      generalize (s0 :: S') = S at *
      simp -implicitDefEqProofs [r8_3, k8_3, hi2, x1, ret1 m22, hs, sp, scc, hvs, lnv, lns, n1, w1, w2, q2, trim_cut, ob, b1, b2, b3, b4, Enc.o_bel]
      done
    · have q2 : ¬ (4096 : Int) < (((s0 :: S').length * (lv.length + 1) : Nat) : Int) := by omega
      rw [if_neg q]
      generalize hmm : (s0 :: S').length * (lv.length + 1) = m at *
      generalize hS : (s0 :: S') = S at *
      simp -implicitDefEqProofs [r8_3, k8_3, hi2, x1, ret1 m22, hs, sp, scc, hvs, lnv, lns, n1, w1, w2, q2, clo]
      have hne : S ≠ [] := by rw [← hS]; simp
      have hSl : S.length ≤ 4096 := ha.len
      have ix := fun (j : Nat) (hj : j < S.length) => Enc.index_o (O := intE) (t := 3) (k := .i64) (x := some b) (l := S) Enc.ok_some hj
      have iv := fun (j : Nat) (hj : j < lv.length) => Enc.index_o (O := intE) (t := 3) (k := .i64) (x := some false) (l := lv) Enc.ok_some hj
      rw [LL_for (γ := List Int) S S (fun i acc => [(12, Enc.sl 3 acc), (48, .int .i64 i)]) (fun _ acc => [twO t VT VB VE, ccO c, rtO v V1, intE.row 3 acc]) (fun i rest acc => (.exit 2, [(12, Enc.sl 3 (acc ++ rest.flatMap fun n => pre n lv)), (48, undef)], [twO t VT VB VE, ccO c, rtO v V1, intE.row 3 (acc ++ rest.flatMap fun n => pre n lv)])) (fun i acc => acc.length ≤ 4096 + 20 * i) (by omega) (by omega)]
      · have eW : (S ++ S.flatMap fun n => pre n lv) = stp S lv := rfl
        rw [eW]
        have hSt : StOk (stp S lv) (i + 1) := ⟨by unfold stp; simp [hne], by rw [stp_len, hmm]; omega, bndW_stp ha.b hl20 hsm.lo hsm.hi⟩
        have ih := ih (false, stp S lv) hSt
        have hWn : stp S lv ≠ [] := hSt.ne
        have eo : intE.o (some false) (stp S lv) = lst false (intE.vals (stp S lv)) := rfl
        dsimp only at ih
        rw [eo] at ih
        generalize stp S lv = W at *
        have fz := fun lo hlo => Enc.frz_sl (O := intE) (P := E.P) (h := [twO t VT VB VE, ccO c, rtO v V1, intE.row 3 W]) (b := 3) (lo := lo) (t := 3) (l := W) rfl sI aI hlo
        unfold twO ccO rtO at *
        simp -implicitDefEqProofs [k8_3] at ih
        simp -implicitDefEqProofs [k8_10, prep_frz, fz, hWn, hw, trim_cut, ob, b1, b2, b3, b4, Enc.o_bel]
        with_reducible exact ih
      · simp -implicitDefEqProofs [k8_10]
      · rfl
      · intro nx i acc hi _
        rw [List.flatMap_nil, List.append_nil]
        unfold twO ccO rtO
        simp -implicitDefEqProofs [r8_10, k8_10, hi, trim_le]
      · intro nx j n rest2 acc hj hn hd2 hw2 hacc ih2
        have hj2 : ((j : Int) < S.length) := by omega
        have y1 := ix j hj
        rw [hn] at y1
        unfold twO ccO rtO at *
        simp -implicitDefEqProofs [r8_10, k8_10, hj2, y1, iE, lnv]
        have hnb : bndJ n i 0 := by
          have := ha.b n (by show n ∈ S; rw [← hn]; exact List.getElem_mem hj)
          unfold bndJ
          constructor <;> omega
        rw [LL_for (γ := Int × List Int) lv (n, acc) (fun q a => [(12, Enc.sl 3 a.2), (14, .int .i64 a.1), (54, .int .i64 q)]) (fun _ a => [twO t VT VB VE, ccO c, rtO v V1, intE.row 3 a.2]) (fun q rest a => (.exit 4, [(12, Enc.sl 3 (a.2 ++ pre a.1 rest)), (14, undef), (54, undef)], [twO t VT VB VE, ccO c, rtO v V1, intE.row 3 (a.2 ++ pre a.1 rest)])) (fun q a => a.2.length = acc.length + q ∧ bndJ a.1 i q) (by omega) ⟨rfl, hnb⟩]
        · have ih2 := ih2 (acc ++ pre n lv) (by rw [List.length_append, Cw.pre_len]; omega)
          try rw [List.flatMap_cons]
          rw [← List.append_assoc]
          dsimp only
          generalize acc ++ pre n lv = acc' at *
          unfold twO ccO rtO at *
          simp -implicitDefEqProofs [k8_10, -List.append_assoc] at ih2
          simp -implicitDefEqProofs [k8_13, hw2, trim_le, -List.append_assoc]
          with_reducible exact ih2
        · simp -implicitDefEqProofs [k8_13]
        · rfl
        · intro nx q a hq _
          obtain ⟨z, acc2⟩ := a
          show _ = fin _ (.exit 4, [(12, Enc.sl 3 (acc2 ++ [])), (14, undef), (54, undef)], [twO t VT VB VE, ccO c, rtO v V1, intE.row 3 (acc2 ++ [])])
          rw [List.append_nil]
          unfold twO ccO rtO at *
          simp -implicitDefEqProofs [r8_13, k8_13, hq, trim_le]
          done
        · intro nx q w rest3 a hq hwq hd3 hw3 ha3 ih3
          obtain ⟨z, acc2⟩ := a
          obtain ⟨g1, g2⟩ := ha3
          simp only at g1 g2
          have hq2 : ((q : Int) < lv.length) := by omega
          have z1 := iv q hq
          rw [hwq] at z1
          have hwm : w ∈ lv := by rw [← hwq]; exact List.getElem_mem hq
          have k1 := hsm.lo w hwm
          have k2 := hsm.hi w hwm
          have k3 := bndJ_le g2 (by omega) (by omega)
          have ew : IntKind.i64.wrap (z + w) = z + w := wrap64 (by omega) (by omega)
          have lt := fun h => lit_int h (z + w)
          have ap := fun h (hob : h[3]? = some (intE.row 3 acc2)) => Enc.app (O := intE) (el := elI) (h := h) (b := 3) (lo := 0) (l := acc2) (m := [z + w]) (u := lst true (intE.vals [z + w])) rfl hob Enc.cells_tree (Nat.zero_le _) (by show (acc2.length + 1) * 8 ≤ 2 ^ 47; omega)
          have ih3 := ih3 (z + w, acc2 ++ [z + w]) ⟨by show (acc2 ++ [z + w]).length = _; rw [List.length_append, g1]; simp; omega, bndJ_step g2 k1 k2⟩
          show _ = fin _ (.exit 4, [(12, Enc.sl 3 (acc2 ++ pre z (w :: rest3))), (14, undef), (54, undef)], [twO t VT VB VE, ccO c, rtO v V1, intE.row 3 (acc2 ++ pre z (w :: rest3))])
          rw [pre_cons, show acc2 ++ (z + w) :: pre (z + w) rest3 = (acc2 ++ [z + w]) ++ pre (z + w) rest3 by simp]
          unfold twO ccO rtO at *
          simp -implicitDefEqProofs [k8_13, -List.append_assoc] at ih3
          simp -implicitDefEqProofs [r8_13, k8_13, hq2, z1, iE, ew, lt, ap, hw3, trim_le, -List.append_assoc]
          with_reducible exact ih3
end Go.Proofs.Ytjkemccfcabhgaa.Bm
namespace Go.Proofs.Ytjkemccfcabhgaa.Bm
open Go Go.RowKit
open Rg (Rect Pt)
def fewT (t : Tb) : Bool := decide (t.rs.length ≤ 10)
def fewP (p : Ph) : Bool := decide (p.vs.length ≤ 6) && decide (p.gs.length ≤ 6)
def fewR (r : Rt) : Bool := (r.ph.take 10).all fewP && decide (r.ph.length ≤ 9)
def fewB (t : Tw) (l : List Rt) : Bool := t.p.ts.all fewT && ((l.take 7).all fewR && (decide (t.p.ts.length ≤ 5) && (decide (t.es.length ≤ 20) && (decide (t.bs.length ≤ 20) && decide (l.length ≤ 6)))))
structure Args (t : Tw) (k : Option Bool) (l : List Rt) : Prop where
  tw : TwOk t
  len : t.p.ts.length ≤ 9223372036854775807
  kk : Rec.Ok k l
  rr : ∀ r ∈ l, RtOk r
theorem all_cons2 {α : Type} (f : α → Bool) (a : α) (l : List α) : (a :: l).all f = (f a && l.all f) := rfl
set_option maxHeartbeats 4000000 in
theorem few_spec32 (t : Tw) (k : Option Bool) (l : List Rt) (h : Args t k l) : pureCall E.P (L E) 7 [twV t, rtR.o k l] = some (.bool (fewB t l)) := by
  have lt := fun h' => Rec.o_len (R := tbR) (h := h') h.tw.kt
  have it := fun (i : Nat) (hi : i < t.p.ts.length) => Rec.o_index (R := tbR) (s := 3) (t := 89) (kk := .i64) rfl h.tw.kt hi
  have lr := fun h' => Rec.o_len (R := rtR) (h := h') h.kk
  have ir := fun (i : Nat) (hi : i < l.length) => Rec.o_index (R := rtR) (s := 7) (t := 58) (kk := .i64) rfl h.kk hi
  have lb := fun h' => Rec.o_len (R := pdR) (h := h') h.tw.kb
  have le := fun h' => Rec.o_len (R := entR) (h := h') h.tw.ke
  have hkr := h.tw.kr
  have hlen := h.len
  have hrs := h.rr
  rw [pureCall_fn F7 rfl]
  unfold twV twC
  generalize tbR.o t.p.kt t.p.ts = VT at *
  generalize pdR.o t.kb t.bs = VB at *
  generalize entR.o t.ke t.es = VE at *
  generalize rtR.o k l = VL at *
  simp -implicitDefEqProofs [r7, p7]
  unfold fewB
  rw [LL_for (γ := Unit) t.p.ts () (fun i _ => [(5, .int .i64 i)]) (fun _ _ => [twO t VT VB VE]) (fun i rest _ => if rest.all fewT = true then (.exit 0, [(5, undef)], [twO t VT VB VE]) else (.ret, [(4, .bool false), (5, undef)], [twO t VT VB VE])) (fun _ _ => True) hlen trivial]
  · cases q : t.p.ts.all fewT
    · simp -implicitDefEqProofs [k7_2, -List.all_eq_true, -List.all_eq_false]
    · rw [if_pos rfl, Bool.true_and]
      simp -implicitDefEqProofs [k7_2, -List.all_eq_true, -List.all_eq_false]
      rw [LL_for (γ := Unit) (l.take 7) () (fun i _ => [(6, .int .i64 i)]) (fun _ _ => [twO t VT VB VE]) (fun i rest _ => if rest.all fewR = true then (.exit 2, [(6, undef)], [twO t VT VB VE]) else (.ret, [(4, .bool false), (6, undef)], [twO t VT VB VE])) (fun _ _ => True) (by rw [List.length_take]; omega) trivial]
      · cases q2 : (l.take 7).all fewR
        · simp -implicitDefEqProofs [k7_7, -List.all_eq_true, -List.all_eq_false]
        · rw [if_pos rfl, Bool.true_and]
          unfold twO
          by_cases c1 : t.p.ts.length ≤ 5
          case neg =>
            have c1' : ¬ ((t.p.ts.length : Nat) : Int) ≤ 5 := by omega
            simp -implicitDefEqProofs [k7_7, lt, c1, c1']
          have c1' : ((t.p.ts.length : Nat) : Int) ≤ 5 := by omega
          by_cases c2 : t.es.length ≤ 20
          case neg =>
            have c2' : ¬ ((t.es.length : Nat) : Int) ≤ 20 := by omega
            simp -implicitDefEqProofs [k7_7, lt, le, c1, c1', c2, c2']
          have c2' : ((t.es.length : Nat) : Int) ≤ 20 := by omega
          by_cases c3 : t.bs.length ≤ 20
          case neg =>
            have c3' : ¬ ((t.bs.length : Nat) : Int) ≤ 20 := by omega
            simp -implicitDefEqProofs [k7_7, lt, le, lb, c1, c1', c2, c2', c3, c3']
          have c3' : ((t.bs.length : Nat) : Int) ≤ 20 := by omega
          simp -implicitDefEqProofs [k7_7, lt, le, lb, lr, c1, c1', c2, c2', c3, c3']
          omega
      · simp -implicitDefEqProofs [k7_7]
      · rfl
      · intro nx i c hi _
        rw [List.length_take] at hi
        rw [show ([] : List Rt).all fewR = true from rfl, if_pos rfl]
        unfold twO
        by_cases c1 : (i : Int) < (l.length : Int)
        · have c2 : ¬ (i : Int) ≤ 6 := by omega
          simp -implicitDefEqProofs [r7_7, k7_7, lr, c1, c2, trim_le]
        · simp -implicitDefEqProofs [r7_7, k7_7, lr, c1, trim_le]
      · intro nx i v rest c hi hv hd hw _ ih
        have ih := ih () trivial
        have hi' := hi
        rw [List.length_take] at hi'
        have hi2 : ((i : Int) < l.length) := by omega
        have hi6 : (i : Int) ≤ 6 := by omega
        have x1 := ir i (by omega)
        rw [List.getElem_take] at hv
        rw [hv, rt_val] at x1
        have hm : v ∈ l := by rw [← hv]; exact List.getElem_mem _
        have lp := fun h' => Rec.o_len (R := phR) (h := h') (hrs v hm).kp
        have ip := fun (i : Nat) (hi : i < v.ph.length) => Rec.o_index (R := phR) (s := 2) (t := 77) (kk := .i64) rfl (hrs v hm).kp hi
        have hpo := (hrs v hm).ph
        rw [all_cons2]
        have f1 : ∀ sz, fitsTT ⟨some false, sz⟩ (phR.o v.kp v.ph) = true := fun _ => Rec.o_fits
        generalize phR.o v.kp v.ph = V1 at *
        unfold twO at *
        simp -implicitDefEqProofs [k7_7, -List.all_eq_true, -List.all_eq_false] at ih
        simp -implicitDefEqProofs [r7_7, k7_7, lr, hi2, hi6, x1, f1, -List.all_eq_true, -List.all_eq_false]
        have ef : fewR v = ((v.ph.take 10).all fewP && decide (v.ph.length ≤ 9)) := rfl
        rw [LL_for (γ := Unit) (v.ph.take 10) () (fun j _ => [(8, .int .i64 j)]) (fun _ _ => [twO t VT VB VE]) (fun j rest _ => if rest.all fewP = true then (.exit 4, [(8, undef)], [twO t VT VB VE]) else (.ret, [(4, .bool false), (8, undef)], [twO t VT VB VE])) (fun _ _ => True) (by rw [List.length_take]; omega) trivial]
        · cases q3 : (v.ph.take 10).all fewP
          · rw [q3, Bool.false_and] at ef
            unfold twO
            simp -implicitDefEqProofs [k7_11, ef, trim_le, -List.all_eq_true, -List.all_eq_false]
            done
          · rw [q3, Bool.true_and] at ef
            rw [if_pos rfl]
            unfold twO
            by_cases d1 : v.ph.length ≤ 9
            · have d2 : ¬ (9 : Int) < (v.ph.length : Int) := by omega
              rw [decide_eq_true d1] at ef
              simp -implicitDefEqProofs [k7_11, ef, lp, d2, hw, trim_le, -List.all_eq_true, -List.all_eq_false]
              with_reducible exact ih
            · have d2 : (9 : Int) < (v.ph.length : Int) := by omega
              rw [decide_eq_false d1] at ef
              simp -implicitDefEqProofs [k7_11, ef, lp, d2, trim_le, -List.all_eq_true, -List.all_eq_false]
              done
        · simp -implicitDefEqProofs [k7_11]
        · rfl
        · intro nx j c hj _
          rw [List.length_take] at hj
          rw [show ([] : List Ph).all fewP = true from rfl, if_pos rfl]
          unfold twO
          by_cases c1 : (j : Int) < (v.ph.length : Int)
          · have c2 : ¬ (j : Int) ≤ 9 := by omega
            simp -implicitDefEqProofs [r7_11, k7_11, lp, c1, c2, trim_le]
          · simp -implicitDefEqProofs [r7_11, k7_11, lp, c1, trim_le]
        · intro nx j w rest c hj hwj hd3 hw3 _ ih3
          have ih3 := ih3 () trivial
          have hj' := hj
          rw [List.length_take] at hj'
          have hj2 : ((j : Int) < v.ph.length) := by omega
          have hj9 : (j : Int) ≤ 9 := by omega
          have z1 := ip j (by omega)
          rw [List.getElem_take] at hwj
          rw [hwj, ph_val] at z1
          have hwm : w ∈ v.ph := by rw [← hwj]; exact List.getElem_mem _
          have lv := fun h' => Rec.o_len (R := volR) (h := h') (hpo w hwm).kv
          have lg := fun h' => Rec.o_len (R := entR) (h := h') (hpo w hwm).kg
          rw [all_cons2]
          unfold twO fewP at *
          have f2 : ∀ sz, fitsTT ⟨some false, sz⟩ (volR.o w.kv w.vs) = true := fun _ => Rec.o_fits
          have f3 : ∀ sz, fitsTT ⟨some false, sz⟩ (entR.o w.kg w.gs) = true := fun _ => Rec.o_fits
          generalize volR.o w.kv w.vs = V2 at *
          generalize entR.o w.kg w.gs = V3 at *
          simp -implicitDefEqProofs [k7_11, -List.all_eq_true, -List.all_eq_false] at ih3
          by_cases d1 : w.vs.length ≤ 6
          case neg =>
            have d1' : (6 : Int) < (w.vs.length : Int) := by omega
            rw [decide_eq_false d1, Bool.false_and, Bool.false_and]
            simp -implicitDefEqProofs [r7_11, k7_11, lp, hj2, hj9, z1, f2, lv, d1', trim_le]
            done
          have d1' : ¬ (6 : Int) < (w.vs.length : Int) := by omega
          by_cases d2 : w.gs.length ≤ 6
          case neg =>
            have d2' : (6 : Int) < (w.gs.length : Int) := by omega
            rw [decide_eq_true d1, decide_eq_false d2, Bool.true_and, Bool.false_and]
            simp -implicitDefEqProofs [r7_11, k7_11, lp, hj2, hj9, z1, f2, f3, lv, lg, d1', d2', trim_le]
            done
          have d2' : ¬ (6 : Int) < (w.gs.length : Int) := by omega
          rw [decide_eq_true d1, decide_eq_true d2, Bool.true_and, Bool.true_and]
          simp -implicitDefEqProofs [r7_11, k7_11, lp, hj2, hj9, z1, f2, f3, lv, lg, d1', d2', hw3, trim_le, -List.all_eq_true, -List.all_eq_false]
          with_reducible exact ih3
  · simp -implicitDefEqProofs [k7_2]
  · rfl
  · intro nx i c hi _
    rw [show ([] : List Tb).all fewT = true from rfl, if_pos rfl]
    unfold twO
    simp -implicitDefEqProofs [r7_2, k7_2, hi, lt, trim_le]
  · intro nx i v rest c hi hv hd hw _ ih
    have ih := ih () trivial
    have hi2 : ((i : Int) < t.p.ts.length) := by omega
    have x1 := it i hi
    rw [hv, tb_val] at x1
    have hm : v ∈ t.p.ts := by rw [← hv]; exact List.getElem_mem hi
    have lrs := fun h' => Rec.o_len (R := entR) (h := h') (hkr v hm)
    rw [all_cons2]
    have f1 : ∀ sz, fitsTT ⟨some false, sz⟩ (entR.o v.kr v.rs) = true := fun _ => Rec.o_fits
    generalize entR.o v.kr v.rs = V1 at *
    unfold twO fewT at *
    simp -implicitDefEqProofs [k7_2, -List.all_eq_true, -List.all_eq_false] at ih
    by_cases q : v.rs.length ≤ 10
    · have q2 : ¬ (10 : Int) < (v.rs.length : Int) := by omega
      rw [decide_eq_true q, Bool.true_and]
      simp -implicitDefEqProofs [r7_2, k7_2, hi2, x1, f1, lt, lrs, q2, hw, trim_le, -List.all_eq_true, -List.all_eq_false]
      with_reducible exact ih
    · have q2 : (10 : Int) < (v.rs.length : Int) := by omega
      rw [decide_eq_false q, Bool.false_and]
      simp -implicitDefEqProofs [r7_2, k7_2, hi2, x1, f1, lt, lrs, q2, trim_le]
end Go.Proofs.Ytjkemccfcabhgaa.Bm
namespace Go.Proofs.Ytjkemccfcabhgaa.Bm
open Go Go.RowKit
open Rg (Rect Pt)
theorem rop_loadT {C : Callee} {lo : Nat} {k : TI} {x : Operand} {ρ : Operand → Value} {h : Heap} : ropR E C lo true (.load k x) ρ h = if isCp (ρ x) then (loadT k h (ρ x)).map (·, h) else none := by
  by_cases hc : isCp (ρ x) = true
  · rw [if_pos hc]
    show (if (true && !isCp (ρ x)) = true then none else _) = _
    rw [hc]; rfl
  · rw [if_neg hc]
    show (if (true && !isCp (ρ x)) = true then none else _) = _
    rw [Bool.eq_false_iff.2 hc]; rfl
theorem isCp_cptr {v : Value} : isCp (cptr v) = true := rfl
theorem sRt : szOf E.P 58 = some 7 := by kernel_rfl
theorem aRt : aggT E.P 58 = some true := by kernel_rfl
def lapB (r : Rt) (day : Int) : Bool := livR r && decide (r.til < day)
def lapR (r : Rt) (day : Int) : Rt := { ownR r with over := r.over || lapB r day }
theorem own_val (r : Rt) : rtR.val (ownR r) = .agg ⟨[.int .i64 r.id, .int .i64 r.hol, .int .i64 r.lot, lst false (phR.vals (r.ph.map cloP)), .int .i64 r.used, .int .i64 r.til, .bool r.over]⟩ := rfl
set_option maxHeartbeats 1000000 in
theorem lapse_spec (r : Rt) (hr : RtFew r) (day : Int) : pureCall E.P (L E) 13 [rtR.val r, .int .i64 day] = some (.tuple ⟨[rtR.val (lapR r day), .bool (lapB r day)]⟩) := by
  have hl := liv_spec r hr.kp
  have ho := own_spec r hr
  have hrr := fun h => rt_reify r h
  have hrs := rt_settled r
  have e : rtR.val (lapR r day) = .agg ⟨[.int .i64 r.id, .int .i64 r.hol, .int .i64 r.lot, lst false (phR.vals (r.ph.map cloP)), .int .i64 r.used, .int .i64 r.til, .bool (r.over || lapB r day)]⟩ := rfl
  rw [e]
  rw [own_val] at ho
  rw [rt_val] at *
  rw [pureCall_fn F13 rfl]
  have sW : settled 8 (lst false (phR.vals (r.ph.map cloP))) = true := rfl
  have sW7 : settled 7 (lst false (phR.vals (r.ph.map cloP))) = true := rfl
  generalize phR.o r.kp r.ph = V at *
  generalize lst false (phR.vals (r.ph.map cloP)) = W at *
  unfold lapB
  have liv0 : r.over = true → livR r = false := fun h => by unfold livR; rw [h]; rfl
  cases hv : livR r
  · rw [hv] at hl
    cases hov : r.over
    · rw [hov] at hl hrr hrs ho
      simp -implicitDefEqProofs [r13, p13, ret0 m16, hl, hrr, ret1 m29, ho, hrs, sW, reifyC_set]
      done
    · rw [hov] at hl hrr hrs ho
      simp -implicitDefEqProofs [r13, p13, ret0 m16, hl, hrr, ret1 m29, ho, hrs, sW, reifyC_set]
      done
  · rw [hv] at hl
    have hov : r.over = false := by
      cases q : r.over
      · rfl
      · rw [liv0 q] at hv; cases hv
    rw [hov] at hl hrr hrs ho ⊢
    by_cases hd : r.til < day
    · simp -implicitDefEqProofs [r13, p13, ret0 m16, hl, hrr, ret1 m29, ho, hrs, sW, hd, reifyC_set]
      done
    · simp -implicitDefEqProofs [r13, p13, ret0 m16, hl, hrr, ret1 m29, ho, hrs, sW, hd, reifyC_set]
      done
theorem frz_str {t : TypeId} {c : List Value} {h : Heap} {lo b : Nat} (ho : h[b]? = some (.cells t c 0)) (hs : szOf E.P t = some c.length) (ha : aggT E.P t = some true) (h1 : lo ≤ b) (hc : c.all (settled 8) = true) : freezeV E.P depth lo h (.pointer (some ⟨b, 0, none⟩)) = some (cptr (.agg ⟨c⟩), h.set b .dead) := by
  rw [frz_ptr8 ho hs ha h1, if_pos hc]; rfl
def zRt : Rt := ⟨0, 0, 0, none, [], 0, 0, false⟩
def zPh : Ph := ⟨none, [], none, []⟩
def useB' (r : Rt) (day : Int) : Int := if day < 0 ∨ 1073741824 < day then 1 else if livR r = false then 22 else if r.til < day then 20 else 0
def useR (r : Rt) : Rt := { ownR r with used := r.used + 1 }
def useP (r : Rt) : Ph := cloP (r.ph.getD r.used.toNat zPh)
theorem rt_zero : buildT (.fs ⟨[.int .i64 0, .int .i64 0, .int .i64 0, .slice none 0 0, .int .i64 0, .int .i64 0, .bool false]⟩ ⟨[(0, 1), (1, 1), (2, 2), (4, 1), (5, 1), (6, 1)]⟩) #[] = some (.agg ⟨[.int .i64 0, .int .i64 0, .int .i64 0, .slice none 0 0, .int .i64 0, .int .i64 0, .bool false]⟩) := rfl
theorem ph_zero : buildT (.fs ⟨[.slice none 0 0, .slice none 0 0]⟩ ⟨[(0, 1), (1, 1)]⟩) #[] = some (.agg ⟨[.slice none 0 0, .slice none 0 0]⟩) := rfl
theorem ph_settled (p : Ph) : settled depth (phR.val p) = true := phC_set p 6
set_option maxHeartbeats 2000000 in
theorem use_spec (r : Rt) (hr : RtFew r) (day : Int) : pureCall E.P (L E) 15 [rtR.val r, .int .i64 day] = some (.tuple ⟨[rtR.val (if useB' r day = 0 then useR r else zRt), phR.val (if useB' r day = 0 then useP r else zPh), .int .i64 (useB' r day)]⟩) := by
  have hl := liv_spec r hr.kp
  have ho := own_spec r hr
  have hlf := left_spec r hr
  have hrr := fun h => rt_reify r h
  have hrs := rt_settled r
  have ez : rtR.val zRt = .agg ⟨[.int .i64 0, .int .i64 0, .int .i64 0, .slice none 0 0, .int .i64 0, .int .i64 0, .bool false]⟩ := rfl
  have ep : phR.val zPh = .agg ⟨[.slice none 0 0, .slice none 0 0]⟩ := rfl
  have hlenp := hr.ph.len
  have eu : rtR.val (useR r) = .agg ⟨[.int .i64 r.id, .int .i64 r.hol, .int .i64 r.lot, lst false (phR.vals (r.ph.map cloP)), .int .i64 (r.used + 1), .int .i64 r.til, .bool r.over]⟩ := rfl
  have sW : settled 8 (lst false (phR.vals (r.ph.map cloP))) = true := rfl
  have sW7 : settled 7 (lst false (phR.vals (r.ph.map cloP))) = true := rfl
  rw [own_val] at ho
  rw [rt_val] at hl ho hlf hrr hrs ⊢
  rw [pureCall_fn F15 rfl]
  have bz1 := rt_zero
  have bz2 := ph_zero
  by_cases h1 : day < 0
  · have eb : useB' r day = 1 := by unfold useB'; rw [if_pos (.inl h1)]
    rw [eb, if_neg (by decide), if_neg (by decide), ez, ep]
    generalize phR.o r.kp r.ph = V at *
    simp -implicitDefEqProofs [r15, p15, h1, bz1, bz2]
    done
  by_cases h2 : 1073741824 < day
  · have eb : useB' r day = 1 := by unfold useB'; rw [if_pos (.inr h2)]
    rw [eb, if_neg (by decide), if_neg (by decide), ez, ep]
    generalize phR.o r.kp r.ph = V at *
    simp -implicitDefEqProofs [r15, p15, h1, h2, bz1, bz2]
    done
  have eb : useB' r day = if livR r = false then 22 else if r.til < day then 20 else 0 := by unfold useB'; rw [if_neg (fun h => h.elim h1 h2)]
  rw [eb]
  cases hv : livR r
  · rw [hv] at hl
    rw [if_pos rfl]
    rw [if_neg (by decide), if_neg (by decide), ez, ep]
    generalize phR.o r.kp r.ph = V at *
    simp -implicitDefEqProofs [r15, p15, h1, h2, ret0 m16, hl, hrr, bz1, bz2]
    done
  rw [hv] at hl
  rw [if_neg (by decide : ¬ true = false)]
  by_cases h3 : r.til < day
  · rw [if_pos h3, if_neg (by decide : ¬ (20 : Int) = 0), if_neg (by decide : ¬ (20 : Int) = 0), ez, ep]
    generalize phR.o r.kp r.ph = V at *
    simp -implicitDefEqProofs [r15, p15, h1, h2, h3, ret0 m16, hl, hrr, bz1, bz2]
    done
  rw [if_neg h3, if_pos rfl, if_pos rfl, eu]
  have hu : 0 ≤ r.used ∧ r.used < r.ph.length := by
    unfold livR at hv
    simp only [Bool.and_eq_true, decide_eq_true_eq] at hv
    exact hv.2
  have eL : leftR r = r.ph.drop r.used.toNat := by unfold leftR; rw [if_pos hv]
  have ek : kL r = some false := by unfold kL; rw [if_pos hv]
  rw [eL, ek] at hlf
  have hlt : r.used.toNat < r.ph.length := by omega
  have e0 : ((r.ph.drop r.used.toNat).map cloP) = cloP r.ph[r.used.toNat] :: (r.ph.drop (r.used.toNat + 1)).map cloP := by
    rw [List.drop_eq_getElem_cons hlt, List.map_cons]
  have ep2 : useP r = cloP r.ph[r.used.toNat] := by
    unfold useP
    rw [List.getD_eq_getElem?_getD, List.getElem?_eq_getElem hlt]; rfl
  rw [ep2]
  have eo : phR.o (some false) ((r.ph.drop r.used.toNat).map cloP) = lst false (phR.vals ((r.ph.drop r.used.toNat).map cloP)) := rfl
  rw [eo] at hlf
  have ix := Rec.index_tree (R := phR) (h0 := 2) (x := false) (t := 77) (l := (r.ph.drop r.used.toNat).map cloP) (i := 0) (k := .i64) rfl (by rw [e0]; simp)
  have e2 : ((r.ph.drop r.used.toNat).map cloP)[0]'(by rw [e0]; simp) = cloP r.ph[r.used.toNat] := by simp [e0]
  rw [e2, show ((0 : Nat) : Int) = 0 from rfl] at ix
  generalize cloP r.ph[r.used.toNat] = w at *
  have hws := phC_set w 7
  have hwt := ph_settled w
  have e3 : phR.val w = .agg ⟨[volR.o w.kv w.vs, entR.o w.kg w.gs]⟩ := rfl
  have ew : IntKind.i64.wrap (r.used + 1) = r.used + 1 := wrap64 (by omega) (by omega)
  have s4 : ∀ n, settled (n + 1) (volR.o w.kv w.vs) = true := fun n => Rec.o_set
  have s5 : ∀ n, settled (n + 1) (entR.o w.kg w.gs) = true := fun n => Rec.o_set
  rw [e3] at ix hwt ⊢
  generalize lst false (phR.vals ((r.ph.drop r.used.toNat).map cloP)) = LV at *
  generalize volR.o w.kv w.vs = V1 at *
  generalize entR.o w.kg w.gs = V2 at *
  generalize phR.o r.kp r.ph = V at *
  generalize lst false (phR.vals (r.ph.map cloP)) = W at *
  have fz1 := fun rest => frz_str (t := 58) (c := [.int .i64 r.id, .int .i64 r.hol, .int .i64 r.lot, W, .int .i64 (r.used + 1), .int .i64 r.til, .bool r.over]) (h := .cells 58 [.int .i64 r.id, .int .i64 r.hol, .int .i64 r.lot, W, .int .i64 (r.used + 1), .int .i64 r.til, .bool r.over] 0 :: rest) (lo := 0) (b := 0) rfl sRt aRt (Nat.zero_le _) (by simp only [List.all_cons, set_int, set_bool, sW, List.all_nil, Bool.and_self])
  have fz2 := fun a b c rest => frz_str (t := 77) (c := [V1, V2]) (h := a :: b :: c :: .cells 77 [V1, V2] 0 :: rest) (lo := 0) (b := 3) rfl sPh aPh (Nat.zero_le _) (by simp only [List.all_cons, s4, s5, List.all_nil, Bool.and_self])
  simp -implicitDefEqProofs [r15, p15, h1, h2, h3, ret0 m16, hl, hrr, ret1 m30, hlf, ix, hrs, ret1 m29, ho, ew, prep_frz, prep_still, rop_loadT, isCp_cptr, fz1, fz2, sW, s4, s5]
  done
def splB (r : Rt) (at_ id : Int) : Int := if livR r = false then 22 else if at_ ≤ r.used ∨ (r.ph.length : Int) ≤ at_ ∨ id < 0 ∨ id = r.id then 1 else 0
def splA (r : Rt) (at_ : Int) : Rt := { r with kp := some true, ph := (r.ph.map cloP).take at_.toNat }
def splC (r : Rt) (at_ id : Int) : Rt := { r with id := id, used := 0, kp := some false, ph := (r.ph.map cloP).drop at_.toNat }
theorem slice_at {t : TypeId} {g : Option Bool} {h : Heap} {l : List Ph} {n : Nat} {z : Int} (hz : z = (n : Nat)) (hn : n ≤ l.length) : sliceT (.sl t ⟨g, some 2⟩) h (lst false (phR.vals l)) none (some (.int .i64 z)) (some (.int .i64 z)) = some (lst true (phR.vals (l.take n))) := by
  subst hz
  have h1 : ((phR.vals l).all fun v => (cellsL v).length == 2) = true := Rec.vals_all (R := phR) l
  have h2 : (phR.vals l).length = l.length := Rec.vals_len
  have e : (phR.vals l).take n = phR.vals (l.take n) := by unfold Rec.vals; rw [List.map_take]
  unfold sliceT lst
  simp [h2, bound, hn, e]
  intro x hx
  simpa using List.all_eq_true.1 h1 x hx
set_option maxHeartbeats 2000000 in
theorem split_spec (r : Rt) (hr : RtFew r) (at_ id : Int) : pureCall E.P (L E) 12 [rtR.val r, .int .i64 at_, .int .i64 id] = some (.tuple ⟨[rtR.val (if splB r at_ id = 0 then splA r at_ else zRt), rtR.val (if splB r at_ id = 0 then splC r at_ id else zRt), .int .i64 (splB r at_ id)]⟩) := by
  have hl := liv_spec r hr.kp
  have hrr := fun h => rt_reify r h
  have hp := phases_spec r.kp r.ph hr.kp hr.ph
  have lp := fun h => Rec.o_len (R := phR) (h := h) hr.kp
  have sV : settled depth (phR.o r.kp r.ph) = true := Rec.o_set
  have ez : rtR.val zRt = .agg ⟨[.int .i64 0, .int .i64 0, .int .i64 0, .slice none 0 0, .int .i64 0, .int .i64 0, .bool false]⟩ := rfl
  have eA : rtR.val (splA r at_) = .agg ⟨[.int .i64 r.id, .int .i64 r.hol, .int .i64 r.lot, lst true (phR.vals ((r.ph.map cloP).take at_.toNat)), .int .i64 r.used, .int .i64 r.til, .bool r.over]⟩ := rfl
  have eC : rtR.val (splC r at_ id) = .agg ⟨[.int .i64 id, .int .i64 r.hol, .int .i64 r.lot, lst false (phR.vals ((r.ph.map cloP).drop at_.toNat)), .int .i64 0, .int .i64 r.til, .bool r.over]⟩ := rfl
  have bz := rt_zero
  rw [rt_val] at hl hrr ⊢
  rw [pureCall_fn F12 rfl]
  cases hv : livR r
  · have eb : splB r at_ id = 22 := by unfold splB; rw [if_pos hv]
    rw [hv] at hl
    rw [eb, if_neg (by decide), if_neg (by decide), ez]
    generalize phR.o r.kp r.ph = V at *
    simp -implicitDefEqProofs [r12, p12, ret0 m16, hl, hrr, bz]
    done
  rw [hv] at hl
  by_cases h1 : at_ ≤ r.used
  · have eb : splB r at_ id = 1 := by unfold splB; rw [if_neg (by rw [hv]; decide), if_pos (.inl h1)]
    rw [eb, if_neg (by decide), if_neg (by decide), ez]
    generalize phR.o r.kp r.ph = V at *
    simp -implicitDefEqProofs [r12, p12, ret0 m16, hl, hrr, h1, bz]
    done
  by_cases h2 : (r.ph.length : Int) ≤ at_
  · have eb : splB r at_ id = 1 := by unfold splB; rw [if_neg (by rw [hv]; decide), if_pos (.inr (.inl h2))]
    rw [eb, if_neg (by decide), if_neg (by decide), ez]
    generalize phR.o r.kp r.ph = V at *
    simp -implicitDefEqProofs [r12, p12, ret0 m16, hl, hrr, h1, lp, h2, bz]
    done
  by_cases h3 : id < 0
  · have eb : splB r at_ id = 1 := by unfold splB; rw [if_neg (by rw [hv]; decide), if_pos (.inr (.inr (.inl h3)))]
    rw [eb, if_neg (by decide), if_neg (by decide), ez]
    generalize phR.o r.kp r.ph = V at *
    simp -implicitDefEqProofs [r12, p12, ret0 m16, hl, hrr, h1, lp, h2, h3, bz]
    done
  by_cases h4 : id = r.id
  · have eb : splB r at_ id = 1 := by unfold splB; rw [if_neg (by rw [hv]; decide), if_pos (.inr (.inr (.inr h4)))]
    rw [eb, if_neg (by decide), if_neg (by decide), ez]
    subst h4
    generalize phR.o r.kp r.ph = V at *
    simp -implicitDefEqProofs [r12, p12, ret0 m16, hl, hrr, h1, lp, h2, h3, bz]
    done
  have eb : splB r at_ id = 0 := by unfold splB; rw [if_neg (by rw [hv]; decide), if_neg (fun h => h.elim h1 fun h => h.elim h2 fun h => h.elim h3 h4)]
  rw [eb, if_pos rfl, if_pos rfl, eA, eC]
  have hu : 0 ≤ r.used ∧ r.used < r.ph.length := by
    unfold livR at hv
    simp only [Bool.and_eq_true, decide_eq_true_eq] at hv
    exact hv.2
  have hat : at_ = ((at_.toNat : Nat) : Int) := (Int.toNat_of_nonneg (by omega)).symm
  have hle : at_.toNat ≤ (r.ph.map cloP).length := by rw [List.length_map]; omega
  have q1 := fun h => slice_at (t := 77) (g := some true) (h := h) (l := r.ph.map cloP) hat hle
  have q2 := fun h => rec_drop (R := phR) (x := false) (t := 77) (g := some true) (h := h) (l := r.ph.map cloP) (n := at_.toNat) (k := .i64) hle (s := 2) rfl
  rw [← hat] at q2
  have isW : isTr (lst false (phR.vals (r.ph.map cloP))) = true := rfl
  have sA : ∀ n, settled (n + 1) (lst true (phR.vals ((r.ph.map cloP).take at_.toNat))) = true := fun n => rfl
  have sB : ∀ n, settled (n + 1) (lst false (phR.vals ((r.ph.map cloP).drop at_.toNat))) = true := fun n => rfl
  have coA : cellsOf (lst true (phR.vals ((r.ph.map cloP).take at_.toNat))) = some [lst true (phR.vals ((r.ph.map cloP).take at_.toNat))] := rfl
  have coB : cellsOf (lst false (phR.vals ((r.ph.map cloP).drop at_.toNat))) = some [lst false (phR.vals ((r.ph.map cloP).drop at_.toNat))] := rfl
  have coV : cellsOf (phR.o r.kp r.ph) = some [phR.o r.kp r.ph] := Rec.o_cellsOf
  generalize lst true (phR.vals ((r.ph.map cloP).take at_.toNat)) = WA at *
  generalize lst false (phR.vals ((r.ph.map cloP).drop at_.toNat)) = WB at *
  generalize lst false (phR.vals (r.ph.map cloP)) = W at *
  generalize phR.o r.kp r.ph = V at *
  have fz1 := fun rest => frz_str (t := 58) (c := [.int .i64 r.id, .int .i64 r.hol, .int .i64 r.lot, WA, .int .i64 r.used, .int .i64 r.til, .bool r.over]) (h := .cells 58 [.int .i64 r.id, .int .i64 r.hol, .int .i64 r.lot, WA, .int .i64 r.used, .int .i64 r.til, .bool r.over] 0 :: rest) (lo := 0) (b := 0) rfl sRt aRt (Nat.zero_le _) (by simp only [List.all_cons, set_int, set_bool, sA, List.all_nil, Bool.and_self])
  have fz2 := fun a b c rest => frz_str (t := 58) (c := [.int .i64 id, .int .i64 r.hol, .int .i64 r.lot, WB, .int .i64 0, .int .i64 r.til, .bool r.over]) (h := a :: b :: c :: .cells 58 [.int .i64 id, .int .i64 r.hol, .int .i64 r.lot, WB, .int .i64 0, .int .i64 r.til, .bool r.over] 0 :: rest) (lo := 0) (b := 3) rfl sRt aRt (Nat.zero_le _) (by simp only [List.all_cons, set_int, set_bool, sB, List.all_nil, Bool.and_self])
  simp -implicitDefEqProofs [r12, p12, ret0 m16, hl, hrr, h1, lp, h2, h3, h4, ret1 m28, hp, sV, q1, q2, isW, prep_frz, prep_still, rop_loadT, isCp_cptr, fz1, fz2, sA, sB, coA, coB]
  done
end Go.Proofs.Ytjkemccfcabhgaa.Bm
namespace Go.Proofs.Ytjkemccfcabhgaa.Bm
open Go Go.RowKit
open Rg (Rect Pt)
abbrev elR : El := ⟨58, 7, 72, .agg ⟨[.int .i64 0, .int .i64 0, .int .i64 0, .slice none 0 0, .int .i64 0, .int .i64 0, .bool false]⟩, ⟨some true, some 7⟩⟩
set_option maxHeartbeats 1000000 in
theorem replaced_spec (x : Bool) (l : List Rt) (i : Nat) (r : Rt) (hi : i < l.length) (hl : l.length ≤ 1000) : pureCall E.P (L E) 14 [rtR.o (some x) l, .int .i64 (i : Int), rtR.val r] = some (lst false (rtR.vals (l.set i r))) := by
  have hne : l ≠ [] := fun e => by rw [e] at hi; simp at hi
  have ap := fun h lo st => app_r0 (R := rtR) (el := elR) (h := h) (lo := lo) (st := st) (u := lst x (rtR.vals l)) (m := l) rfl (Rec.cells_tree rfl _) hne (by show l.length * 72 ≤ 2 ^ 47; omega)
  have lit : ∀ h, buildSliceT (some elR) true h 0 #[] = some (lst true [], h) := fun h => build_none'.trans rfl
  have e1 : rtR.o (some x) l = lst x (rtR.vals l) := rfl
  have ix := Rec.index_row (R := rtR) (h0 := 7) (t := 58) (g := some true) (b := 1) (l := l) (i := i) (k := .i64) rfl hi
  have st := fun a => store_row (R := rtR) (h := [a, rtR.row 58 l]) (b := 1) (lo := 0) (n := 7) (t := 58) (l := l) (i := i) (a := r) rfl rfl (Nat.zero_le _) hi
  have rr := fun a => Rec.reifyR_row (R := rtR) (P := E.P) (h := [a, rtR.row 58 (l.set i r)]) (b := 1) (t := 58) (l := l.set i r) rfl sRt aRt
  have es : rtR.sl 1 (l.set i r) = rtR.sl 1 l := by unfold Rec.sl; rw [List.length_set]
  rw [es] at rr
  rw [e1]
  rw [rt_val] at st ⊢
  generalize lst x (rtR.vals l) = V at *
  generalize phR.o r.kp r.ph = V1 at *
  rw [pureCall_fn F14 rfl]
  simp -implicitDefEqProofs [r14, p14, lit, ap, ix, st, rr, -append_lst]
  done
end Go.Proofs.Ytjkemccfcabhgaa.Bm
namespace Go.Proofs.Ytjkemccfcabhgaa.Bm
open Go Go.RowKit
variable {α β : Type}
def lz (R : Rec α) (b : Nat) (l : List α) : Value := if l = [] then lst true [] else R.sl b l
def lzH (R : Rec α) (t : TypeId) (l : List α) : Heap := if l = [] then [] else [R.row t l]
theorem lz_nil {R : Rec α} {b : Nat} : lz R b [] = lst true [] := rfl
theorem lzH_nil {R : Rec α} {t : TypeId} : lzH R t [] = [] := rfl
theorem lz_ne {R : Rec α} {b : Nat} {l : List α} (h : l ≠ []) : lz R b l = R.sl b l := if_neg h
theorem lzH_ne {R : Rec α} {t : TypeId} {l : List α} (h : l ≠ []) : lzH R t l = [R.row t l] := if_neg h
theorem cellsOf_lz {R : Rec α} {b : Nat} {l : List α} : cellsOf (lz R b l) = some [lz R b l] := by
  by_cases h : l = []
  · subst h; rfl
  · rw [lz_ne h]; rfl
theorem get_row {A B C o : AObj} {P Q : Heap} : (A :: B :: C :: (P ++ (o :: Q)))[3 + P.length]? = some o := by
  rw [show 3 + P.length = P.length + 1 + 1 + 1 by omega]
  simp
theorem set_row {A B C o o' : AObj} {P Q : Heap} : (A :: B :: C :: (P ++ (o :: Q))).set (3 + P.length) o' = A :: B :: C :: (P ++ (o' :: Q)) := by
  rw [show 3 + P.length = P.length + 1 + 1 + 1 by omega]
  simp
theorem app_lz {R : Rec α} {el : El} {A B C : AObj} {P Q : Heap} {acc : List α} {x : α} {h : Heap} {b : Nat} {v : Value} (hh : h = A :: B :: C :: (P ++ (lzH R el.e acc ++ Q))) (hbb : b = 3 + P.length) (hv : v = lz R b acc) (hel : el.size = R.m + 1) (hb : (acc.length + 1) * el.bytes ≤ 2 ^ 47) (hok : acc ≠ [] ∨ Q = []) :
    appendT (some el) h 0 false v (lst true (R.vals [x])) = some (lz R b (acc ++ [x]), A :: B :: C :: (P ++ (lzH R el.e (acc ++ [x]) ++ Q))) := by
  subst hh hbb hv
  rw [lz_ne (l := acc ++ [x]) (by simp), lzH_ne (l := acc ++ [x]) (by simp)]
  by_cases h : acc = []
  · subst h
    obtain rfl : Q = [] := hok.resolve_left (fun h => h rfl)
    rw [lz_nil, lzH_nil]
    rw [app_r0 (R := R) (m := [x]) hel (Rec.cells_tree hel _) (by simp) (by simpa using hb)]
    have e : (A :: B :: C :: (P ++ ([] ++ []))).length = 3 + P.length := by simp; omega
    rw [e]
    simp
  · rw [lz_ne h, lzH_ne h]
    have := Rec.app (R := R) (el := el) (h := A :: B :: C :: (P ++ (R.row el.e acc :: Q))) (lo := 0) (b := 3 + P.length) (t := el.e) (acc := acc) (m := [x]) (u := lst true (R.vals [x])) hel get_row (Rec.cells_tree hel _) (Nat.zero_le _) hb
    rw [set_row] at this
    exact this
theorem app_cp {R : Rec α} {el : El} {h : Heap} {l : List α} {v : Value} {k : Option Bool} (hk : Rec.Ok k l) (hv : v = R.o k l) (hel : el.size = R.m + 1) (hb : l.length * el.bytes ≤ 2 ^ 47) :
    appendT (some el) h 0 false (lst true []) v = some (lz R h.length l, h ++ lzH R el.e l) := by
  subst hv
  by_cases h0 : l = []
  · subst h0
    rw [lz_nil, lzH_nil, List.append_nil, append_lst, Rec.o_cells hel hk]
    simp
  · rw [lz_ne h0, lzH_ne h0]
    exact app_r0 hel (Rec.o_cells hel hk) h0 hb
theorem reify_lz {R : Rec α} {A B C : AObj} {P Q : Heap} {l : List α} {t : TypeId} {n : Nat} (hs : szOf E.P t = some (R.m + 1)) (ha : aggT E.P t = some true) :
    reify E.P (n + 1) (A :: B :: C :: (P ++ (lzH R t l ++ Q))) (lz R (3 + P.length) l) = some (R.o (some l.isEmpty) l) := by
  by_cases h : l = []
  · subst h; rfl
  · rw [lz_ne h, lzH_ne h]
    have e : l.isEmpty = false := by cases l with | nil => exact absurd rfl h | cons a l => rfl
    rw [e]
    exact Rec.reify_row get_row hs ha
theorem trim_lz {R : Rec α} {t : TypeId} {A A' B C : AObj} {P Q : Heap} {acc : List α} {x : α} {n : Nat} {vs : List Value} (hn : n = (A :: B :: C :: (P ++ (lzH R t acc ++ Q))).length) (hok : acc ≠ [] ∨ Q = [])
    (hA : acc = [] → belowO (3 + P.length) A' = false) : trim n vs (A' :: B :: C :: (P ++ (lzH R t (acc ++ [x]) ++ Q))) = A' :: B :: C :: (P ++ (lzH R t (acc ++ [x]) ++ Q)) := by
  subst hn
  by_cases h : acc = []
  · subst h
    obtain rfl : Q = [] := hok.resolve_left (fun h => h rfl)
    unfold trim
    split
    · rfl
    · rw [if_neg]
      have e : (A :: B :: C :: (P ++ (lzH R t [] ++ []))).length = 3 + P.length := by simp [lzH_nil]; omega
      rw [e, show 3 + P.length = (P.length + 2) + 1 by omega, List.take_succ_cons, List.all_cons, show P.length + 2 + 1 = 3 + P.length by omega, hA rfl]
      simp
  · refine trim_le ?_
    rw [lzH_ne h, lzH_ne (by simp : acc ++ [x] ≠ [])]
    simp
end Go.Proofs.Ytjkemccfcabhgaa.Bm
