/-
 Chapter 25: the search, walked. Conditions: valid problems, areas that are not too great.
-/
import Derived.Test.YthkddpgnhaeooaaQT20
namespace Go.Proofs.Ythkddpgnhaeooaa.Bm
open Go Go.RowKit
open Cp (Q Br Acc bump)
def sndC : RCode → RCode
 | .seq _ b => b
 | c => c
def fstC : RCode → RCode
 | .seq a _ => a
 | c => c
theorem eq_some_nil {n c : Nat} {a : Addr} (hc : c ≠ 0) : aBin E.P .eql 34 (.slice (some a) n c) (.slice none 0 0) = some (.bool false) := by
 have hu : E.P.underlying 34 = some (.slice 3) := by kernel_rfl
 show ((aEq E.P Op.maxDepth 34 (.slice (some a) n c) (.slice none 0 0)).map Value.bool) = _
 unfold Op.maxDepth aEq
 rw [hu]
 show (if c = 0 then none else some false).map Value.bool = _
 rw [if_neg hc]; rfl
theorem eq_nil_nil : aBin E.P .eql 34 (.slice none 0 0) (.slice none 0 0) = some (.bool true) := by
 have hu : E.P.underlying 34 = some (.slice 3) := by kernel_rfl
 show ((aEq E.P Op.maxDepth 34 (.slice none 0 0) (.slice none 0 0)).map Value.bool) = _
 unfold Op.maxDepth aEq
 rw [hu]; rfl
abbrev elInt : El := ⟨3, 1, 8, .int .i64 0, ⟨some false, some 1⟩⟩
abbrev elBr : El := ⟨60, 2, 16, .agg ⟨[.int .i64 0, .int .i64 0]⟩, ⟨some true, some 2⟩⟩
theorem clone_nil (h : Heap) (st : Bool) : retCall E (L E) 0 st 27 [.slice none 0 0] h = some (.slice none 0 0, h) := by
 have e := eq_nil_nil
 rw [ret5 m27, L_fn F27 rfl]
 simp -implicitDefEqProofs [r27, padS, e, trim_le, frz_set8]
theorem clone_part (h : Heap) (st : Bool) (b n : Nat) (R : List Int) (hb : h[b]? = some (intE.row 3 R)) (hn : n ≤ R.length) (hR : R ≠ []) (hl : R.length ≤ 1000000) : ∃ x e, retCall E (L E) 0 st 27 [Enc.part b n R] h = some (lst x (intE.vals (R.take n)), h ++ e) := by
 have h0 : R.length ≠ 0 := fun e => hR (List.eq_nil_of_length_eq_zero e)
 have e := eq_some_nil (n := n) (c := R.length) (a := ⟨b, 0, some R.length⟩) h0
 have cs := Enc.cells_part (O := intE) hb hn
 have hlt : (R.take n).length = n := by rw [List.length_take]; omega
 by_cases hz : n = 0
 ·subst hz
  have ap := Enc.app_none (O := intE) (el := elInt) (h := h) (lo := h.length) (st := false) (u := Enc.part b 0 R) rfl (by rw [cs]; rfl)
  have fz := Enc.o_frz (P := E.P) (O := intE) (k := some true) (l := []) (h := h) (lo := h.length)
  refine ⟨true, [], ?_⟩
  rw [ret5 m27, L_fn F27 rfl]
  unfold Enc.part at *
  have fz : freezeV E.P depth h.length h (lst true []) = some (lst true [], h) := fz
  simp -implicitDefEqProofs [r27, padS, e, lit_none, ap, -append_lst, fz, trim_le]
  rfl
 ·have hm : R.take n ≠ [] := fun q => hz (by rw [← hlt, q]; rfl)
  have ap := Enc.app_tree (O := intE) (l := []) (m := R.take n) (el := elInt) (h := h) (lo := h.length) (st := false) (u := Enc.part b n R) rfl cs hm (by rw [hlt]; show (0 + n) * 8 ≤ 2 ^ 47; omega)
  rw [List.nil_append] at ap
  have fz := Enc.frz_sl (P := E.P) (O := intE) (l := R.take n) (h := h ++ [intE.row 3 (R.take n)]) (b := h.length) (lo := h.length) (t := 3) app_get0 sI1 gI1 (Nat.le_refl _)
  rw [hlt, if_neg hz, app_set0] at fz
  have tr : ∃ e, trim h.length [lst false (intE.vals (R.take n))] (h ++ [AObj.dead]) = h ++ e := by
   unfold Bm.trim
   split
   ·exact ⟨_, rfl⟩
   split
   ·exact ⟨[], by rw [List.take_left, List.append_nil]⟩
   ·exact ⟨_, rfl⟩
  obtain ⟨e', tr⟩ := tr
  refine ⟨false, e', ?_⟩
  rw [ret5 m27, L_fn F27 rfl]
  have ap : appendT (some elInt) h h.length false (lst true []) (Enc.part b n R) = _ := ap
  unfold Enc.part at *
  simp -implicitDefEqProofs [r27, padS, e, lit_none, ap, -append_lst, fz, tr]
section
variable {p : Pb} {ka : Option Bool} {A : List Int} {h : Heap} {a : Acc} {c : List Int} {ob : Option Nat}
theorem Cs.clone (s : Cs p ka A h a c ob) (hl : A.length ≤ 1000000) (st : Bool) (e0 : Heap) :
  ∃ cv k e, loadT ⟨some false, some 1⟩ (h ++ e0) (cAt 4 0) = some cv ∧ Enc.Ok k c ∧ retCall E (L E) 0 st 27 [cv] (h ++ e0) = some (intE.o k c, (h ++ e0) ++ e) := by
 obtain ⟨cv, h5, h6⟩ := s.ch
 rcases h6 with ⟨_, rfl, rfl⟩ | ⟨b, R, q1, _, rfl, q4, q5, q6, q7, q8⟩
 ·exact ⟨_, none, [], obj_load (ga e0 h5) rfl, Enc.ok_nil, by rw [List.append_nil]; exact clone_nil _ _⟩
 ·obtain ⟨x, e, hr⟩ := clone_part (h ++ e0) st b c.length R (ga e0 q4) q6 q7 (by omega)
  rw [q5] at hr
  exact ⟨_, some x, e, obj_load (ga e0 h5) rfl, Enc.ok_some, hr⟩
theorem Cs.setVal (s : Cs p ka A h a c ob) (v : Int) : storeT (some 1) h 0 (.int .i64 v) (cAt 5 0) = some (h.set 5 (.cells 3 [.int .i64 v] 0)) ∧ Cs p ka A (h.set 5 (.cells 3 [.int .i64 v] 0)) ⟨v, a.best, a.tree⟩ c ob := by
 refine ⟨obj_store s.va (by simp) (Nat.zero_le _) rfl, s.setA (by decide) (by decide) (gs s.tr (by decide)) ?_ (gq (gl s.va)) (gs s.row (by decide))⟩
 obtain ⟨k, h1, h2⟩ := s.be
 exact ⟨k, h1, gs h2 (by decide)⟩
theorem Cs.setBest (s : Cs p ka A h a c ob) (k : Option Bool) (l : List Int) (hk : Enc.Ok k l) : storeT (some 1) h 0 (intE.o k l) (cAt 3 0) = some (h.set 3 (.cells 34 [intE.o k l] 0)) ∧ Cs p ka A (h.set 3 (.cells 34 [intE.o k l] 0)) ⟨a.val, l, a.tree⟩ c ob := by
 obtain ⟨k0, h1, h2⟩ := s.be
 exact ⟨obj_store h2 (by simp) (Nat.zero_le _) Enc.o_cellsOf, s.setA (by decide) (by decide) (gs s.tr (by decide)) ⟨k, hk, gq (gl h2)⟩ (gs s.va (by decide)) (gs s.row (by decide))⟩
theorem sl_cellsOf (l : List Br) : cellsOf (brR.sl 7 l) = some [brR.sl 7 l] := rfl
theorem Cs.push (s : Cs p ka A h a c ob) (b : Br) (hl : a.tree.length ≤ 1000000) : ∃ h1, appendT (some elBr) h 0 false (brR.sl 7 a.tree) (lst true [brR.val b]) = some (brR.sl 7 (a.tree ++ [b]), h1) ∧ ∃ h2, storeT (some 1) h1 0 (brR.sl 7 (a.tree ++ [b])) (cAt 2 0) = some h2 ∧ Cs p ka A h2 ⟨a.val, a.best, a.tree ++ [b]⟩ c ob ∧ Ext h ob h2 ob := by
 have ap := Rec.app (R := brR) (m := [b]) (el := elBr) (h := h) (lo := 0) (b := 7) (t := 60) (acc := a.tree) (u := lst true [brR.val b]) rfl s.row (Rec.cells_tree rfl [b]) (Nat.zero_le _) (by show (a.tree.length + 1) * 16 ≤ 2 ^ 47; omega)
 have h7 := gl s.row
 have h2' := gs (q := brR.row 60 (a.tree ++ [b])) s.tr (show 7 ≠ 2 by decide)
 refine ⟨_, ap, _, obj_store h2' (by simp) (Nat.zero_le _) (sl_cellsOf _), ?_, (Ext.set (.inl (by decide))).trans (Ext.set (.inl (by decide)))⟩
 obtain ⟨k0, k1, k2, _, ⟨kk, k3, k3'⟩, ⟨cv, k5, k6⟩, k7, k8, _⟩ := s
 refine ⟨by simpa using k0, gs (gs k1 (by decide)) (by decide), gs (gs k2 (by decide)) (by decide), gq (by simp; omega), ⟨kk, k3, gs (gs k3' (by decide)) (by decide)⟩, ⟨cv, gs (gs k5 (by decide)) (by decide), ?_⟩, gs (gs k7 (by decide)) (by decide), gs (gs k8 (by decide)) (by decide), gs (gq h7) (by decide)⟩
 rcases k6 with k6 | ⟨b, R, q1, q2, q3, q4, q5⟩
 ·exact .inl k6
 ·exact .inr ⟨b, R, q1, q2, q3, gs (gs q4 (by omega)) (by omega), q5⟩
theorem Cs.count (s : Cs p ka A h a c ob) (i : Nat) (hi : i < a.tree.length) : storeT (some 1) h 0 (.int .i64 (a.tree[i].kids + 1)) (brR.at_ 7 a.tree i 0) = some (h.set 7 (brR.row 60 (a.tree.modify i bump))) ∧
  Cs p ka A (h.set 7 (brR.row 60 (a.tree.modify i bump))) ⟨a.val, a.best, a.tree.modify i bump⟩ c ob := by
 have e : a.tree.modify i bump = a.tree.set i (bump a.tree[i]) := by
  apply List.ext_getElem
  ·rw [List.length_modify, List.length_set]
  ·intro j h1 h2
   rw [List.getElem_modify, List.getElem_set]
   by_cases q : i = j
   ·subst q; simp
   ·simp [q]
 have st := Rec.store_cell (R := brR) (h := h) (b := 7) (j := 0) (lo := 0) (t := 60) (l := a.tree) (i := i) (v := .int .i64 (a.tree[i].kids + 1)) (a := bump a.tree[i]) rfl s.row (Nat.zero_le _) hi (by decide) rfl
 rw [e]
 refine ⟨st, s.setA (by decide) (by decide) ?_ ?_ (gs s.va (by decide)) (gq (gl s.row))⟩
 ·have := gs (q := brR.row 60 (a.tree.set i (bump a.tree[i]))) s.tr (show 7 ≠ 2 by decide)
  rw [this]
  unfold Rec.sl
  rw [List.length_set]
 ·obtain ⟨k, h1, h2⟩ := s.be
  exact ⟨k, h1, gs h2 (by decide)⟩
theorem Cs.more (s : Cs p ka A h a c ob) (u : Int) (hA : A.length ≤ 1000) (hc : c.length < A.length) : ∃ cv, loadT ⟨some false, some 1⟩ h (cAt 4 0) = some cv ∧ ∃ cv' h1, appendT (some elInt) h 0 false cv (lst true (intE.vals [u])) = some (cv', h1) ∧ ∃ h2, storeT (some 1) h1 0 cv' (cAt 4 0) = some h2 ∧
  ∃ ob', Cs p ka A h2 a (c ++ [u]) ob' ∧ Ext h ob h2 ob' := by
 obtain ⟨k0, k1, k2, k3, ⟨kk, k4, k4'⟩, ⟨cv, k5, k6⟩, k7, k8, k9⟩ := s
 refine ⟨cv, obj_load k5 rfl, ?_⟩
 have hl := gl k5
 rcases k6 with ⟨rfl, rfl, rfl⟩ | ⟨b, R, rfl, q2, rfl, q4, q5, q6, q7, q8⟩
 ·have ap := Enc.app_nil (O := intE) (m := [u]) (el := elInt) (h := h) (lo := 0) (st := false) (u := lst true (intE.vals [u])) rfl Enc.cells_tree (by simp) (by show 1 * 8 ≤ 2 ^ 47; decide)
  refine ⟨_, _, ap, _, obj_store (ga _ k5) (by simp) (Nat.zero_le _) rfl, some h.length, ?_, ?_⟩
  ·refine ⟨by simp; omega, gs (ga _ k1) (by decide), gs (ga _ k2) (by decide), gs (ga _ k3) (by decide), ⟨kk, k4, gs (ga _ k4') (by decide)⟩, ⟨_, gq (by simp; omega), .inr ⟨h.length, [u], rfl, k0, rfl, gs (by rw [List.getElem?_append_right (Nat.le_refl _), Nat.sub_self]; rfl) (by omega), rfl, Nat.le_refl _, by simp, by simp only [List.length_cons, List.length_nil] at *; omega⟩⟩, gs (ga _ k7) (by decide), gs (ga _ k8) (by decide), gs (ga _ k9) (by decide)⟩
  ·refine ⟨by simp, fun b o hb _ hg => gs (ga _ hg) (by omega), .inr ⟨rfl, _, rfl, Nat.le_refl _⟩⟩
 ·by_cases hr : c.length < R.length
  ·have ap := Enc.app_room (O := intE) (m := [u]) (el := elInt) (h := h) (lo := 0) (b := b) (i := c.length) (t := 3) (l := R) (u := lst true (intE.vals [u])) rfl q4 Enc.cells_tree (by simp) (Nat.zero_le _) (by show c.length + 1 ≤ R.length; omega)
   have hlen : (R.take c.length ++ [u] ++ R.drop (c.length + [u].length)).length = R.length := by simp; omega
   have h5' := gs (q := intE.row 3 (R.take c.length ++ [u] ++ R.drop (c.length + [u].length))) k5 (show b ≠ 4 by omega)
   refine ⟨_, _, ap, _, obj_store h5' (by simp) (Nat.zero_le _) rfl, some b, ?_, (Ext.set (.inr rfl)).trans (Ext.set (.inl (by decide)))⟩
   refine ⟨by simpa using k0, gs (gs k1 (by omega)) (by decide), gs (gs k2 (by omega)) (by decide), gs (gs k3 (by omega)) (by decide), ⟨kk, k4, gs (gs k4' (by omega)) (by decide)⟩, ⟨_, gq (by simp; omega), .inr ⟨b, _, rfl, q2, by rw [List.length_append], gs (gq (gl q4)) (by omega), ?_, ?_, ?_, by rw [hlen]; exact q8⟩⟩, gs (gs k7 (by omega)) (by decide), gs (gs k8 (by omega)) (by decide), gs (gs k9 (by omega)) (by decide)⟩
   ·rw [q5, List.take_append_of_le_length (by simp), List.take_of_length_le (by simp)]
   ·rw [hlen, List.length_append]; show c.length + 1 ≤ R.length; omega
   ·simp
  ·have he : R = c := by rw [← q5, List.take_of_length_le (by omega)]
   subst he
   have ap := Enc.app (O := intE) (m := [u]) (el := elInt) (h := h) (lo := 0) (b := b) (t := 3) (l := R) (u := lst true (intE.vals [u])) rfl q4 Enc.cells_tree (Nat.zero_le _) (by show (R.length + 1) * 8 ≤ 2 ^ 47; omega)
   have h5' := gs (q := intE.row 3 (R ++ [u])) k5 (show b ≠ 4 by omega)
   refine ⟨_, _, ap, _, obj_store h5' (by simp) (Nat.zero_le _) rfl, some b, ?_, (Ext.set (.inr rfl)).trans (Ext.set (.inl (by decide)))⟩
   refine ⟨by simpa using k0, gs (gs k1 (by omega)) (by decide), gs (gs k2 (by omega)) (by decide), gs (gs k3 (by omega)) (by decide), ⟨kk, k4, gs (gs k4' (by omega)) (by decide)⟩, ⟨_, gq (by simp; omega), .inr ⟨b, _, rfl, q2, rfl, gs (gq (gl q4)) (by omega), List.take_of_length_le (Nat.le_refl _), Nat.le_refl _, by simp, by rw [List.length_append]; exact hc⟩⟩, gs (gs k7 (by omega)) (by decide), gs (gs k8 (by omega)) (by decide), gs (gs k9 (by omega)) (by decide)⟩
theorem Cs.less {u : Int} (s : Cs p ka A h a (c ++ [u]) ob) : ∃ cv, loadT ⟨some false, some 1⟩ h (cAt 4 0) = some cv ∧ lenT .sl h cv = some (.int .i64 ((c.length + 1 : Nat) : Int)) ∧ ∃ cv', sliceT (.sl 3 ⟨some false, some 1⟩) h cv none (some (.int .i64 (c.length : Int))) none = some cv' ∧
  ∃ h2, storeT (some 1) h 0 cv' (cAt 4 0) = some h2 ∧ Cs p ka A h2 a c ob ∧ Ext h ob h2 ob := by
 obtain ⟨k0, k1, k2, k3, ⟨kk, k4, k4'⟩, ⟨cv, k5, k6⟩, k7, k8, k9⟩ := s
 have hl := gl k5
 rcases k6 with ⟨_, q, _⟩ | ⟨b, R, rfl, q2, rfl, q4, q5, q6, q7, q8⟩
 ·exact absurd q (by simp)
 ·have e1 : (c ++ [u]).length = c.length + 1 := by simp
  rw [e1] at q5 q6 k5
  refine ⟨_, obj_load k5 rfl, Enc.part_len, _, Enc.part_take q4 (by omega), _, obj_store k5 (by simp) (Nat.zero_le _) rfl, ?_, Ext.set (.inl (by decide))⟩
  refine ⟨by simpa using k0, gs k1 (by decide), gs k2 (by decide), gs k3 (by decide), ⟨kk, k4, gs k4' (by decide)⟩, ⟨_, gq hl, .inr ⟨b, R, rfl, q2, rfl, gs q4 (by omega), ?_, by omega, q7, q8⟩⟩, gs k7 (by decide), gs k8 (by decide), gs k9 (by decide)⟩
  have := congrArg (List.take c.length) q5
  rw [List.take_take, Nat.min_eq_left (by omega), List.take_left] at this
  exact this
end
open Cp (Q Br Acc Nd bump prQ mayQ validQ reach enter vis loopF next take us Small)
def h42 : RCode := fstC r26.body
def c42 : RCode := fstC (sndC r26.body)
def t42 : RCode := sndC (sndC r26.body)
theorem r42_eq : r26 = ⟨104, .seq h42 (.seq c42 t42), []⟩ := rfl
structure Sr (A W : List Int) (s : Nd) : Prop where
 w : W.length = 6
 left : ∀ (u : Nat) (hu : u < W.length), s.left (u : Int) = W[u]
 wb : ∀ x ∈ W, -1 ≤ x ∧ x ≤ 9223372036854775807
 rem : s.rem = A.drop s.c.length
 le : s.c.length ≤ A.length
 v : 0 ≤ s.v ∧ s.v ≤ (s.c.length : Int) * 1099511627776
theorem Sr.lok {A W : List Int} {s : Nd} (h : Sr A W s) : LOk W := ⟨h.w, fun x hx => by have := h.wb x hx; omega⟩
theorem Sr.vb {A W : List Int} {s : Nd} (h : Sr A W s) (hA : AOk A) : 0 ≤ s.v ∧ s.v ≤ 14293651161088 := by
 have h1 := h.v
 have h2 := h.le
 have h3 := hA.len
 omega
theorem Sr.remE {A W : List Int} {s : Nd} (h : Sr A W s) (hc : s.c.length < A.length) : s.rem = A[s.c.length] :: A.drop (s.c.length + 1) := by
 rw [h.rem]; exact List.drop_eq_getElem_cons hc
theorem Sr.next {A W : List Int} {s : Nd} (h : Sr A W s) (hA : AOk A) (hc : s.c.length < A.length) (u : Nat) (hu : u < W.length) (h0 : 0 ≤ W[u] - A[s.c.length]) : Sr A (W.set u (W[u] - A[s.c.length])) (take s (u : Int) A[s.c.length] (A.drop (s.c.length + 1))) := by
 have ha := hA.a _ (List.getElem_mem hc)
 have hw := h.wb _ (List.getElem_mem hu)
 have e : (s.c ++ [(u : Int)]).length = s.c.length + 1 := by simp
 refine ⟨by rw [List.length_set]; exact h.w, fun w hw => ?_, fun x hx => ?_, ?_, ?_, ?_⟩
 ·show (if ((w : Nat) : Int) = (u : Int) then s.left (u : Int) - A[s.c.length] else s.left (w : Int)) = _
  have hw' : w < W.length := by rw [List.length_set] at hw; exact hw
  rw [List.getElem_set]
  by_cases q : u = w
  ·subst q; rw [if_pos rfl, if_pos rfl, h.left u hu]
  ·rw [if_neg (by omega), if_neg q, h.left w hw']
 ·rcases List.mem_or_eq_of_mem_set hx with k | k
  ·exact h.wb x k
  ·omega
 ·show A.drop (s.c.length + 1) = A.drop (s.c ++ [(u : Int)]).length
  rw [e]
 ·show (s.c ++ [(u : Int)]).length ≤ A.length
  rw [e]; exact hc
 ·show 0 ≤ s.v + A[s.c.length] ∧ s.v + A[s.c.length] ≤ (((s.c ++ [(u : Int)]).length : Nat) : Int) * 1099511627776
  rw [e]
  have := h.v
  omega
set_option maxHeartbeats 1000000 in
theorem enter42 (p : Pb) (x : Bool) (A W : List Int) (s : Nd) (hs : Sr A W s) (hA : AOk A) {h : Heap} {a : Acc} {ob : Option Nat} (hC : Cs p (some x) A h a s.c ob) {bs : Nat} (hS : h[bs]? = some (stO (intE.o (some x) A) p W s.v)) (_h8 : 8 ≤ bs) (_hob : ob ≠ some bs) (v0 : Value) :
  ∃ x17 x18 x19 x20 x21 x22 x23 x24 h2, (∀ l : Slots, evR E (L E) LL 0 c42 (blk v0 (cAt 5 0) (cAt 4 0) (cAt 3 0) (cAt 1 0) (cAt 2 0) (cAt 0 0) (cAt 6 0) (.pointer (some ⟨bs, 0, none⟩)) undef undef undef undef undef undef undef (blk undef undef undef undef undef undef undef undef undef undef undef undef undef undef undef undef l)) h =
   some (.normal, blk v0 (cAt 5 0) (cAt 4 0) (cAt 3 0) (cAt 1 0) (cAt 2 0) (cAt 0 0) (cAt 6 0) (.pointer (some ⟨bs, 0, none⟩)) undef undef undef undef undef undef undef (blk undef x17 x18 x19 x20 x21 x22 x23 x24 undef undef undef undef undef undef undef l), h2)) ∧
   Cs p (some x) A h2 ⟨if a.val < s.v then s.v else a.val, if a.val < s.v then s.c else a.best, a.tree⟩ s.c ob ∧ Ext h ob h2 ob := by
 have hA13 := hA.len
 have l11 : ∀ e, loadT ⟨some false, some 1⟩ (h ++ e) (.pointer (some ⟨bs, 11, none⟩)) = some (.int .i64 s.v) := fun e => obj_load (b := bs) (j := 11) (ga e hS) (by
  unfold stC
  rw [List.getElem?_cons_succ, List.getElem?_append_right (by rw [pb_len]; omega), pb_len, List.getElem?_append_right (by rw [Enc.vals_len, hs.w]; omega), Enc.vals_len, hs.w]; rfl)
 have l11 := l11 []
 rw [List.append_nil] at l11
 have l5 : loadT ⟨some false, some 1⟩ h (cAt 5 0) = some (.int .i64 a.val) := obj_load hC.va rfl
 by_cases hv : a.val < s.v
 ·obtain ⟨cv, k, e, i1, i2, i3⟩ := hC.clone (by omega) true []
  rw [List.append_nil] at i1 i3
  have C1 := hC.app e
  obtain ⟨s1, C2⟩ := C1.setVal s.v
  obtain ⟨s2, C3⟩ := C2.setBest k s.c i2
  rw [if_pos hv, if_pos hv]
  refine ⟨.pointer (some ⟨bs, 11, none⟩), .int .i64 s.v, .int .i64 a.val, .bool true, .pointer (some ⟨bs, 11, none⟩), .int .i64 s.v, cv, intE.o k s.c, _, fun l => ?_, C3, (Ext.app e).trans ((Ext.set (.inl (by decide))).trans (Ext.set (.inl (by decide))))⟩
  unfold c42 fstC sndC
  simp -implicitDefEqProofs [r26, l11, l5, hv, i1, i3, s1, s2]
 ·rw [if_neg hv, if_neg hv]
  refine ⟨.pointer (some ⟨bs, 11, none⟩), .int .i64 s.v, .int .i64 a.val, .bool false, undef, undef, undef, undef, _, fun l => ?_, hC, Ext.refl⟩
  unfold c42 fstC sndC
  simp -implicitDefEqProofs [r26, l11, l5, hv]
open Cp (Q Br Acc Nd bump prQ mayQ validQ reach enter vis loopF next take us Small)
theorem ret3t {f : FuncId} (hm : E.mode f = 3) {C : Callee} {lo : Nat} {h : Heap} {args : List Value} : retCall E C lo false f args h = (C f args h lo).map fun r => (r.1, trim h.length [r.1] r.2) := by
 unfold retCall; rw [hm]; rfl
theorem trim_app (h e : Heap) (vs : List Value) : ∃ e', trim h.length vs (h ++ e) = h ++ e' := by
 unfold Bm.trim
 split
 ·exact ⟨_, rfl⟩
 split
 ·exact ⟨[], by rw [List.take_left, List.append_nil]⟩
 ·exact ⟨_, rfl⟩
theorem ex_last {X : CRes} {i : Nat} {K : Heap → Prop} (hx : ∃ r, X = some r ∧ r.1 = .exit i ∧ K r.2.2) : ∃ h', retK [] (blkK i X) = some (.tuple #[], h') ∧ K h' := by
 obtain ⟨⟨e, σ, h'⟩, rfl, he, hk⟩ := hx
 simp only at he hk
 subst he
 refine ⟨h', ?_, hk⟩
 rw [blkK_exit, if_pos rfl, retK_normal]; rfl
theorem lit_br (h : Heap) (b : Br) : buildSliceT (some elBr) false h 1 #[(0, .agg ⟨[.int .i64 b.kids, .int .i64 b.bound]⟩)] = some (lst true [brR.val b], h) :=
 (build_lit' (n := 1) (l := [(0, .agg ⟨[.int .i64 b.kids, .int .i64 b.bound]⟩)]) rfl rfl (by decide) (by decide) (by decide)).trans rfl
def VisN (p : Pb) (x : Bool) (A : List Int) (n : Nat) : Prop := ∀ (s : Nd) (W : List Int) (a : Acc) (h : Heap) (ob : Option Nat), s.rem.length = n → Sr A W s → Cs p (some x) A h a s.c ob → a.tree.length ≤ 4000 → Small (a.tree.length + 1) a.tree →
 ∃ h', L E 26 [stV (intE.o (some x) A) p W s.v, cAt 5 0, cAt 4 0, cAt 3 0, cAt 1 0, cAt 2 0, cAt 0 0, cAt 6 0] h 0 = some (.tuple #[], h') ∧ ∃ ob', Cs p (some x) A h' (vis (prQ p.q) n s a) s.c ob' ∧ Ext h ob h' ob'
theorem add_step (p : Pb) (hp : PbOk p) (hv : validQ p.q = true) (x : Bool) (A W : List Int) (hA : AOk A) (s : Nd) (hs : Sr A W s) (hc : s.c.length < A.length) {h : Heap} {a : Acc} {ob : Option Nat} (hC : Cs p (some x) A h a s.c ob) (u : Nat) (hu : u < W.length) :
  ∃ cv W' v' ok g, loadT ⟨some false, some 1⟩ h (cAt 4 0) = some cv ∧ lenT .sl h cv = some (.int .i64 s.c.length) ∧ retCall E (L E) 0 false 28 [stV (intE.o (some x) A) p W s.v, cv, .int .i64 (u : Int)] h = some (.tuple ⟨[stV (intE.o (some x) A) p W' v', .bool ok]⟩, g) ∧ W'.length = 6 ∧
   Cs p (some x) A g a s.c ob ∧ Ext h ob g ob ∧ h.length ≤ g.length ∧ (ok = false → next (prQ p.q) s (u : Int) = none) ∧ (ok = true → ∃ t, next (prQ p.q) s (u : Int) = some t ∧ Sr A W' t ∧ t.v = v' ∧ t.c = s.c ++ [(u : Int)] ∧ t.rem.length + 1 = s.rem.length) := by
 obtain ⟨cv, l4, ch⟩ := hC.cho
 have l4 := l4 []
 have lc := ch.len []
 rw [List.append_nil] at l4 lc
 have h13 := hA.len
 cases hm : mayQ p.q s.c.getLast? (u : Int)
 ·obtain ⟨e, he⟩ := add_no p hp hv (some x) A W hs.lok s.v h cv s.c ch (u : Int) hm (by omega)
  obtain ⟨e', ht⟩ := trim_app h e [.tuple ⟨[stV (intE.o (some x) A) p W s.v, .bool false]⟩]
  refine ⟨cv, W, s.v, false, h ++ e', l4, lc, ?_, hs.w, hC.app e', Ext.app e', by simp, fun _ => Cp.next_no hm, fun k => absurd k (by decide)⟩
  rw [ret3t m28, he, Option.map_some, ht]
 ·obtain ⟨e, he⟩ := add_yes p hp hv (some x) A W Enc.ok_some hA hs.lok s.v (by have := hs.vb hA; omega) h cv s.c ch u hm hc hu
  obtain ⟨e', ht⟩ := trim_app h e [.tuple ⟨[stV (intE.o (some x) A) p (W.set u (W[u] - A[s.c.length])) (s.v + A[s.c.length]), .bool (decide (0 ≤ W[u] - A[s.c.length]) && decide (s.v + A[s.c.length] ≤ p.most))]⟩]
  have hn := Cp.next_may (hs.remE hc) hm
  rw [hs.left u hu] at hn
  refine ⟨cv, _, _, _, h ++ e', l4, lc, (by rw [ret3t m28, he, Option.map_some, ht]), by rw [List.length_set]; exact hs.w, hC.app e', Ext.app e', by simp, fun k => ?_, fun k => ?_⟩
  ·rw [hn, if_neg]
   rintro ⟨k1, k2⟩
   rw [decide_eq_true k1, decide_eq_true (show s.v + A[s.c.length] ≤ p.most from k2)] at k
   exact absurd k (by decide)
  ·rw [Bool.and_eq_true, decide_eq_true_eq, decide_eq_true_eq] at k
   refine ⟨_, (by rw [hn, if_pos ⟨k.1, k.2⟩]), hs.next hA hc u hu k.1, rfl, rfl, ?_⟩
   rw [hs.remE hc]; rfl
open Cp (Q Br Acc Nd bump prQ mayQ validQ reach enter vis loopF next take us Small)
theorem call_vis (h : Heap) (v : Value) : aCall E (L E) 0 false visF [v] h = retCall E (L E) 0 false 26 [v, cAt 5 0, cAt 4 0, cAt 3 0, cAt 1 0, cAt 2 0, cAt 0 0, cAt 6 0] h := rfl
theorem sumB (A : List Int) (hA : ∀ a ∈ A, 0 ≤ a ∧ a ≤ 1099511627776) : 0 ≤ A.sum ∧ A.sum ≤ (A.length : Int) * 1099511627776 := by
 induction A with
 | nil => simp
 | cons a A ih =>
  have h1 := hA a List.mem_cons_self
  have h2 := ih fun b hb => hA b (List.mem_cons_of_mem a hb)
  rw [List.sum_cons, List.length_cons]
  omega
set_option maxHeartbeats 4000000 in
theorem vis_all (p : Pb) (hp : PbOk p) (hv : validQ p.q = true) (x : Bool) (A : List Int) (hA : AOk A) (n : Nat) (ih : ∀ m, n = m + 1 → VisN p x A m) : VisN p x A n := by
 intro s W a h ob hn hs hC h4 hsm
 have h13 := hA.len
 have hrl : s.rem.length = A.length - s.c.length := by rw [hs.rem, List.length_drop]
 have hle := hs.le
 have hra : ∀ r ∈ s.rem, 0 ≤ r ∧ r ≤ 1099511627776 := fun r hr => hA.a r (by rw [hs.rem] at hr; exact List.mem_of_mem_drop hr)
 have hvb := hs.vb hA
 have hob : ob ≠ some h.length := by
  obtain ⟨cv, _, h6⟩ := hC.ch
  rcases h6 with ⟨h6, _⟩ | ⟨b, R, h6, _, _, h7, _⟩
  ·rw [h6]; simp
  ·rw [h6]; intro k; have := gl h7; have := Option.some.inj k; omega
 have hS1 : (h ++ [stO (intE.o (some x) A) p W s.v])[h.length]? = some (stO (intE.o (some x) A) p W s.v) := app_get0
 obtain ⟨x17, x18, x19, x20, x21, x22, x23, x24, h2, e2, C2, E2⟩ := enter42 p x A W s hs hA (hC.app [stO (intE.o (some x) A) p W s.v]) hS1 hC.len hob (stV (intE.o (some x) A) p W s.v)
 have hS2 : h2[h.length]? = some (stO (intE.o (some x) A) p W s.v) := E2.keep h.length _ hC.len hob hS1
 have E2 := (Ext.app (ob := ob) (h := h) [stO (intE.o (some x) A) p W s.v]).trans E2
 have hbs := hC.len
 generalize hbl : h.length = bs at *
 have l11 : loadT ⟨some false, some 1⟩ h2 (.pointer (some ⟨bs, 11, none⟩)) = some (.int .i64 s.v) := obj_load (b := bs) (j := 11) hS2 (by
  unfold stC
  rw [List.getElem?_cons_succ, List.getElem?_append_right (by rw [pb_len]; omega), pb_len, List.getElem?_append_right (by rw [Enc.vals_len, hs.w]; omega), Enc.vals_len, hs.w]; rfl)
 have l1 : loadT ⟨some false, some 1⟩ h2 (cAt 1 0) = some (intE.o (some x) A) := obj_load C2.ar rfl
 obtain ⟨cv, l4, ch⟩ := C2.cho
 have l4 := l4 []
 have lc := ch.len []
 rw [List.append_nil] at l4 lc
 have dr : sliceT (.sl 3 ⟨some false, some 1⟩) h2 (intE.o (some x) A) (some (.int .i64 (s.c.length : Int))) none none = some (intE.o (some x) s.rem) := by
  rw [hs.rem]; exact Enc.drop_tree rfl hs.le
 have ln := fun h => Enc.o_len (O := intE) (h := h) (k := some x) (l := s.rem) Enc.ok_some
 have ix : ∀ (i : Nat) (hi : i < s.rem.length), indexAddrT (.sl 3 ⟨some false, some 1⟩) (intE.o (some x) s.rem) (.int .i64 (i : Int)) = some (cptr (.int .i64 s.rem[i])) := fun i hi => Enc.index_o (O := intE) Enc.ok_some hi
 rw [L_fn F26 rfl, r42_eq]
 unfold stV
 have h42e : h42 = .region [] [⟨some 8, none, false, .box 77 (.tmp 0)⟩] := rfl
 unfold stO at e2
 unfold stV at e2
 simp -implicitDefEqProofs [p26, h42e, hbl]
 rw [e2]
 unfold t42 sndC
 simp -implicitDefEqProofs [r26, l11, l1, l4, lc, dr, ln]
 rw [LL_for (γ := Int) s.rem s.v (fun i v => [(9, .int .i64 v), (32, .int .i64 i)]) (fun _ _ => h2) (fun _ rest v => (.exit 0, [(9, .int .i64 (v + rest.sum)), (32, undef)], h2)) (fun i v => 0 ≤ v ∧ v ≤ s.v + (i : Int) * 1099511627776) (by omega) ⟨hvb.1, by omega⟩]
 ·have sb := sumB s.rem hra
  have lt : loadT ⟨some false, some 1⟩ h2 (cAt 2 0) = some (brR.sl 7 a.tree) := obj_load C2.tr rfl
  have ltl := Rec.sl_len (R := brR) (h := h2) (b := 7) (l := a.tree)
  have f0 : fieldAddrT ⟨some true, some 4⟩ (some (2, ⟨some false, some 1⟩)) (cAt 0 0) = some (cAt 0 2) := rfl
  have l2 : loadT ⟨some false, some 1⟩ h2 (cAt 0 2) = some (.int .i64 p.most) := obj_load C2.pr rfl
  have bb : buildT (.fs ⟨[.int .i64 0, .int .i64 0]⟩ ⟨[(0, 1), (1, 1)]⟩) #[(1, .int .i64 (min (s.v + s.rem.sum) p.most))] = some (.agg ⟨[.int .i64 0, .int .i64 (min (s.v + s.rem.sum) p.most)]⟩) := rfl
  have lb := lit_br h2 ⟨0, min (s.v + s.rem.sum) p.most⟩
  obtain ⟨h3', ap, h3, st3, C3, E3⟩ := C2.push ⟨0, min (s.v + s.rem.sum) p.most⟩ (by show a.tree.length ≤ 1000000; omega)
  simp only at ap st3 C3 E3 lb
  have hS3 : h3[bs]? = some (stO (intE.o (some x) A) p W s.v) := E3.keep bs _ hbs hob hS2
  have E3 := E2.trans E3
  have lt3 : loadT ⟨some false, some 1⟩ h3 (cAt 2 0) = some (brR.sl 7 (a.tree ++ [⟨0, min (s.v + s.rem.sum) p.most⟩])) := obj_load C3.tr rfl
  have i3 := Rec.index_row (R := brR) (h0 := 2) (t := 60) (g := some true) (b := 7) (l := a.tree ++ [⟨0, min (s.v + s.rem.sum) p.most⟩]) (i := a.tree.length) (k := .i64) rfl (by simp)
  have fi3 := Rec.field_row (R := brR) (b := 7) (n := 0) (f := 1) (l := a.tree ++ [⟨0, min (s.v + s.rem.sum) p.most⟩]) (i := a.tree.length) (k := ⟨some true, some 2⟩) (g := some false)
  have ld3 : loadT ⟨some false, some 1⟩ h3 (brR.at_ 7 (a.tree ++ [⟨0, min (s.v + s.rem.sum) p.most⟩]) a.tree.length 1) = some (.int .i64 (min (s.v + s.rem.sum) p.most)) := by
   rw [Rec.load_cell (R := brR) C3.row (by simp) (by decide), List.getElem_concat_length rfl]; rfl
  have lv3 : loadT ⟨some false, some 1⟩ h3 (cAt 5 0) = some (.int .i64 (if a.val < s.v then s.v else a.val)) := obj_load C3.va rfl
  have en : enter (prQ p.q) s a = ⟨if a.val < s.v then s.v else a.val, if a.val < s.v then s.c else a.best, a.tree ++ [⟨0, min (s.v + s.rem.sum) p.most⟩]⟩ := rfl
  have re : reach (prQ p.q) s = min (s.v + s.rem.sum) p.most := rfl
  simp -implicitDefEqProofs [k26_5, lt, ltl, f0, l2, minI, bb, lb, ap, st3, lt3, i3, fi3, ld3, lv3, -append_slice]
  refine ex_last (K := fun h' => ∃ ob', Cs p (some x) A h' (vis (prQ p.q) n s a) s.c ob' ∧ Ext h ob h' ob') ?_
  have C3 : Cs p (some x) A h3 (enter (prQ p.q) s a) s.c ob := C3
  rw [← re]
  have hev : (if a.val < s.v then s.v else a.val) = (enter (prQ p.q) s a).val := rfl
  rw [hev]
  obtain ⟨cv3, l43, ch3⟩ := C3.cho
  have l43 := l43 []
  have lc3 := ch3.len []
  rw [List.append_nil] at l43 lc3
  have lA := fun h => Enc.o_len (O := intE) (h := h) (k := some x) (l := A) Enc.ok_some
  have lar3 : loadT ⟨some false, some 1⟩ h3 (cAt 1 0) = some (intE.o (some x) A) := obj_load C3.ar rfl
  by_cases op : (enter (prQ p.q) s a).val < reach (prQ p.q) s
  case neg =>
   have hve : vis (prQ p.q) n s a = enter (prQ p.q) s a := by
    cases n with
    | zero => rfl
    | succ m => exact if_neg op
   rw [hve, LL_go]
   simp -implicitDefEqProofs [r26_13, k26_13, op, trim_le, -Prod.exists]
   exact ⟨ob, C3, E3⟩
  by_cases hcl : s.c.length < A.length
  case neg =>
   have h0 : n = 0 := by omega
   subst h0
   have hve : vis (prQ p.q) 0 s a = enter (prQ p.q) s a := rfl
   have hcl' : ¬ ((s.c.length : Int) < A.length) := by omega
   rw [hve, LL_go]
   simp -implicitDefEqProofs [r26_13, k26_13, op, l43, lc3, lar3, lA, hcl', trim_le, -Prod.exists]
   exact ⟨ob, C3, E3⟩
  obtain ⟨m, rfl⟩ : ∃ m, n = m + 1 := ⟨n - 1, by omega⟩
  have hcl' : ((s.c.length : Int) < A.length) := by omega
  have hvi : vis (prQ p.q) (m + 1) s a = loopF (vis (prQ p.q) m) (prQ p.q) s a.tree.length us (enter (prQ p.q) s a) := if_pos op
  rw [decide_eq_true op]
  refine LL_ex (α := Nat × Acc × Heap × Option Nat) (0, enter (prQ p.q) s a, h3, ob) (fun c => [(14, .int .i64 (c.1 : Int))]) (fun c => c.2.2.1) (fun r => r.1 = .exit 2 ∧ ∃ ob', Cs p (some x) A r.2.2 (vis (prQ p.q) (m + 1) s a) s.c ob' ∧ Ext h ob r.2.2 ob')
   (fun c => c.1 ≤ 6 ∧ Cs p (some x) A c.2.2.1 c.2.1 s.c c.2.2.2 ∧ Ext h3 ob c.2.2.1 c.2.2.2 ∧ a.tree.length < c.2.1.tree.length ∧ Small c.2.1.tree.length c.2.1.tree ∧ loopF (vis (prQ p.q) m) (prQ p.q) s a.tree.length (us.drop c.1) c.2.1 = vis (prQ p.q) (m + 1) s a) (fun c => 6 - c.1) ?_ ?_ rfl ?_
  ·exact ⟨Nat.zero_le _, C3, Ext.refl, by rw [Cp.enter_len]; omega, Cp.small_enter hsm, hvi.symm⟩
  ·simp -implicitDefEqProofs [k26_13]
  ·intro nx c hc ihl
   obtain ⟨u, ac, hh, o⟩ := c
   obtain ⟨g1, g2, g3, g4, g5, g6⟩ := hc
   simp only at g1 g2 g3 g4 g5 g6 ihl ⊢
   have hSS := g3.keep bs _ hbs hob hS3
   have lhar : loadT ⟨some false, some 1⟩ hh (cAt 1 0) = some (intE.o (some x) A) := obj_load g2.ar rfl
   have lht : loadT ⟨some false, some 1⟩ hh (cAt 2 0) = some (brR.sl 7 ac.tree) := obj_load g2.tr rfl
   have ltl := Rec.sl_len (R := brR) (h := hh) (b := 7) (l := ac.tree)
   by_cases hu6 : u < 6
   case neg =>
    have e6 : u = 6 := by omega
    subst e6
    have g6 : ac = vis (prQ p.q) (m + 1) s a := g6
    simp -implicitDefEqProofs [r26_13, k26_13, trim_le, -Prod.exists]
    rw [← g6]
    exact ⟨o, g2, E3.trans g3⟩
   have hu6' : (u : Int) < 6 := by omega
   have huW : u < W.length := by rw [hs.w]; exact hu6
   obtain ⟨cv4, W', v', ok, g, q1, q2, q3, q4, q5, q6, q7, q8, q9⟩ := add_step p hp hv x A W hA s hs hcl g2 u huW
   by_cases ht4 : ac.tree.length ≤ 4000
   case neg =>
    have ht4' : ¬ ((ac.tree.length : Int) ≤ 4000) := by omega
    rw [Cp.loopF_full ht4] at g6
    simp -implicitDefEqProofs [r26_13, k26_13, hu6', q1, q2, lhar, lA, hcl', lht, ltl, ht4', trim_le, -Prod.exists]
    rw [← g6]
    exact ⟨o, g2, E3.trans g3⟩
   have ht4' : ((ac.tree.length : Int) ≤ 4000) := by omega
   have l8 : loadT ⟨some true, some 12⟩ hh (.pointer (some ⟨bs, 0, none⟩)) = some (.agg ⟨stC (intE.o (some x) A) p W s.v⟩) := obj_all (b := bs) hSS (st_len hs.w)
   have stX : storeT (some 12) (g ++ [AObj.cells 77 zSt 0]) 0 (.agg ⟨stC (intE.o (some x) A) p W' v'⟩) (.pointer (some ⟨g.length, 0, none⟩)) = some (g ++ [AObj.cells 77 (stC (intE.o (some x) A) p W' v') 0]) :=
    (obj_put (b := g.length) (n := 12) (lo := 0) (t := 77) (c := zSt) app_get0 rfl (st_len q4) (by decide) (Nat.zero_le _)).trans (congrArg some app_set0)
   unfold zSt at stX
   unfold stV at q3
   have hwu : IntKind.i64.wrap ((u : Int) + 1) = ((u + 1 : Nat) : Int) := (wrap64 (by omega) (by omega)).trans (by omega)
   have dr := Cp.us_drop hu6
   rw [dr] at g6
   have hh8 := g2.len
   cases ok
   ·have hnn := q8 rfl
    rw [Cp.loopF_none ht4 hnn] at g6
    have ih2 := fun vs => ihl (u + 1, ac, trim hh.length vs (g ++ [AObj.cells 77 (stC (intE.o (some x) A) p W' v') 0]), o) (by show 6 - (u + 1) < 6 - u; omega)
     ⟨by show u + 1 ≤ 6; omega, (q5.app _).trim _ _ hh8, (g3.trans (q6.trans (Ext.app _))).trim _ _ g3.len (by simp; omega), g4, g5, g6⟩
    simp -implicitDefEqProofs [k26_13, -Prod.exists, -Int.natCast_add] at ih2
    simp -implicitDefEqProofs [r26_13, k26_13, hu6', q1, q2, lhar, lA, hcl', lht, ltl, ht4', l8, q3, stX, hwu, -Prod.exists, -Int.natCast_add]
    exact ih2 _
   ·obtain ⟨t, n1, n2, n3, n4, n5⟩ := q9 rfl
    rw [Cp.loopF_some ht4 n1] at g6
    have CG := q5.app [AObj.cells 77 (stC (intE.o (some x) A) p W' v') 0]
    have lgt : loadT ⟨some false, some 1⟩ (g ++ [AObj.cells 77 (stC (intE.o (some x) A) p W' v') 0]) (cAt 2 0) = some (brR.sl 7 ac.tree) := obj_load CG.tr rfl
    have ig := Rec.index_row (R := brR) (h0 := 2) (t := 60) (g := some true) (b := 7) (l := ac.tree) (i := a.tree.length) (k := .i64) rfl g4
    have fg := Rec.field_row (R := brR) (b := 7) (n := 0) (f := 0) (l := ac.tree) (i := a.tree.length) (k := ⟨some true, some 2⟩) (g := some false)
    have ldg : loadT ⟨some false, some 1⟩ (g ++ [AObj.cells 77 (stC (intE.o (some x) A) p W' v') 0]) (brR.at_ 7 ac.tree a.tree.length 0) = some (.int .i64 ac.tree[a.tree.length].kids) := by
     rw [Rec.load_cell (R := brR) CG.row g4 (by decide)]; rfl
    have hk := g5 _ (List.getElem_mem g4)
    have hwk : IntKind.i64.wrap (ac.tree[a.tree.length].kids + 1) = ac.tree[a.tree.length].kids + 1 := wrap64 (by omega) (by omega)
    obtain ⟨sc, C1⟩ := CG.count a.tree.length g4
    generalize hG1 : (g ++ [AObj.cells 77 (stC (intE.o (some x) A) p W' v') 0]).set 7 (brR.row 60 (ac.tree.modify a.tree.length bump)) = G1 at *
    have E1 : Ext (g ++ [AObj.cells 77 (stC (intE.o (some x) A) p W' v') 0]) o G1 o := by rw [← hG1]; exact Ext.set (.inl (by decide))
    obtain ⟨cv5, m1, cv6, G2', m2, G2, m3, o2, C2', E2'⟩ := C1.more (u : Int) (by omega) hcl
    have lvi : loadT ⟨some false, some 1⟩ G2 (cAt 6 0) = some visF := obj_load C2'.vi rfl
    have hox : o ≠ some g.length := by
     obtain ⟨cv, _, h6⟩ := q5.ch
     rcases h6 with ⟨h6, _⟩ | ⟨b, R, h6, _, _, h7, _⟩
     ·rw [h6]; simp
     ·rw [h6]; intro k; have := gl h7; have := Option.some.inj k; omega
    have lX : loadT ⟨some true, some 12⟩ G2 (.pointer (some ⟨g.length, 0, none⟩)) = some (.agg ⟨stC (intE.o (some x) A) p W' v'⟩) := obj_all (b := g.length) ((E1.trans E2').keep _ _ q5.len hox app_get0) (st_len q4)
    have lin : ∀ h : Heap, buildSliceT (some ⟨3, 1, 8, .int .i64 0, ⟨some false, some 1⟩⟩) false h 1 #[(0, .int .i64 (u : Int))] = some (lst true (intE.vals [(u : Int)]), h) := fun h => lit_int h u
    have t1 : (ac.tree.modify a.tree.length bump).length = ac.tree.length := Cp.modify_len _ _ _
    rw [← n4] at C2'
    obtain ⟨h5, r1, o5, C5, E5⟩ := ih m rfl t W' ⟨ac.val, ac.best, ac.tree.modify a.tree.length bump⟩ G2 o2 (by omega) n2 C2' (by show (ac.tree.modify a.tree.length bump).length ≤ 4000; omega) (by
     show Small ((ac.tree.modify a.tree.length bump).length + 1) (ac.tree.modify a.tree.length bump)
     rw [t1]; exact Cp.small_bump g5 _)
    rw [n3] at r1
    unfold stV at r1
    have rc : retCall E (L E) 0 false 26 [.agg ⟨stC (intE.o (some x) A) p W' v'⟩, cAt 5 0, cAt 4 0, cAt 3 0, cAt 1 0, cAt 2 0, cAt 0 0, cAt 6 0] G2 = some (.tuple #[], trim G2.length [.tuple #[]] h5) := by
     rw [ret3t m26, r1]; rfl
    have C6 := C5.trim G2.length [.tuple #[]] C2'.len
    have E6 := E5.trim G2.length [.tuple #[]] (Nat.le_refl _) E5.len
    generalize trim G2.length [.tuple #[]] h5 = G5 at *
    rw [n4] at C6
    obtain ⟨cv7, y1, y2, cv8, y3, G6, y4, C7, E7⟩ := C6.less
    have hwc : IntKind.i64.wrap (((s.c.length + 1 : Nat) : Int) - 1) = (s.c.length : Int) := (wrap64 (by omega) (by omega)).trans (by omega)
    have EE := ((((g3.trans (q6.trans (Ext.app _))).trans E1).trans E2').trans E6).trans E7
    have gr := Cp.vis_grows (prQ p.q) m t ⟨ac.val, ac.best, ac.tree.modify a.tree.length bump⟩
    have sm := Cp.small_vis (prQ p.q) m t ⟨ac.val, ac.best, ac.tree.modify a.tree.length bump⟩ (by
     show Small ((ac.tree.modify a.tree.length bump).length + 1) (ac.tree.modify a.tree.length bump)
     rw [t1]; exact Cp.small_bump g5 _)
    have gr : ac.tree.length ≤ (vis (prQ p.q) m t ⟨ac.val, ac.best, ac.tree.modify a.tree.length bump⟩).tree.length := by rw [← t1]; exact gr
    have hlG : hh.length ≤ G6.length := by
     have a1 := q7
     have a2 := E1.len
     have a3 := E2'.len
     have a4 := E6.len
     have a5 := E7.len
     rw [List.length_append] at a2
     omega
    have ih2 := fun vs => ihl (u + 1, vis (prQ p.q) m t ⟨ac.val, ac.best, ac.tree.modify a.tree.length bump⟩, trim hh.length vs G6, o5) (by show 6 - (u + 1) < 6 - u; omega)
     ⟨by show u + 1 ≤ 6; omega, C7.trim _ _ hh8, EE.trim _ _ g3.len hlG, Nat.lt_of_lt_of_le g4 gr, sm, g6⟩
    simp -implicitDefEqProofs [k26_13, -Prod.exists, -Int.natCast_add] at ih2
    simp -implicitDefEqProofs [r26_13, k26_13, hu6', q1, q2, lhar, lA, hcl', lht, ltl, ht4', l8, q3, stX, lgt, ig, fg, ldg, hwk, sc, m1, lin, m2, m3, lvi, lX, call_vis, rc, y1, y2, hwc, y3, y4, hwu, -Prod.exists, -Int.natCast_add, -append_slice]
    exact ih2 _
 ·simp -implicitDefEqProofs [k26_5]
 ·rfl
 ·intro nx i v hi _
  simp -implicitDefEqProofs [r26_5, k26_5, hi, trim_le]
 ·intro nx i w rest v hi hv hd hw hb ih
  have hi2 : ((i : Int) < s.rem.length) := by omega
  have x1 := ix i hi
  rw [hv] at x1
  have hwa := hra w (by rw [← hv]; exact List.getElem_mem hi)
  have wv : IntKind.i64.wrap (v + w) = v + w := wrap64 (by omega) (by omega)
  have ih := ih (v + w) ⟨by omega, by omega⟩
  simp -implicitDefEqProofs [k26_5] at ih
  rw [List.sum_cons, ← Int.add_assoc]
  simp -implicitDefEqProofs [r26_5, k26_5, hi2, x1, wv, hw, trim_le]
  exact ih
end Go.Proofs.Ythkddpgnhaeooaa.Bm
