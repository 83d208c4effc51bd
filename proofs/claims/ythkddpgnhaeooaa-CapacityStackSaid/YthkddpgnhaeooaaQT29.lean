/-
 Chapter 08: rectangles grown, gaps, regions grown. Conditions: lists that are not too long.
-/
import Derived.Test.YthkddpgnhaeooaaQT28
import Derived.Test.YthkddpgnhaeooaaQT24
import Derived.Test.YthkddpgnhaeooaaQT26
namespace Go.Proofs.Ythkddpgnhaeooaa.Bm
open Go Go.RowKit
open Rg (Rect areaL)
open Cp (Q Br Acc Nd prQ validQ vis root ended best)
theorem validQ_most {q : Q} (h : validQ q = true) : 0 ≤ q.most := (Cp.validQ_iff.1 h).2.2.1
theorem root_sr (p : Pb) (hp : PbOk p) (hv : validQ p.q = true) (A : List Int) : Sr A (limL p.q) (root (prQ p.q) A) := by
 have hm := validQ_most hv
 refine ⟨limN_len _ _, fun u hu => ?_, fun x hx => ?_, rfl, Nat.zero_le _, Int.le_refl _, ?_⟩
 ·have h6 : u < 6 := by have := limN_len p.q 6; unfold limL at hu; omega
  have e : (limL p.q)[u] = Cp.limQ p.q (u : Int) := (limN_get p.q 6 u hu).trans (if_pos h6)
  exact e.symm
 ·obtain ⟨i, hi, rfl⟩ := List.mem_map.1 hx
  have h6 : i < 6 := List.mem_range.1 hi
  rw [if_pos h6]
  have h1 := Cp.fold_hi (i : Int) p.q.left p.q.most (by omega)
  have h2 : p.q.most ≤ 9223372036854775807 := hp.m.2
  unfold Cp.limQ
  omega
 ·show (0 : Int) ≤ ((0 : Nat) : Int) * _
  simp
def bestV (k : Option Bool) (o : Option (Int × List Int × List Br)) : List Value := match o with
 | none => [.slice none 0 0, .int .i64 0, .slice none 0 0, .int .i64 6]
 | some r => [intE.o k r.2.1, .int .i64 r.1, lst false (brR.vals r.2.2), .int .i64 0]
theorem sB2 : szOf E.P 60 = some 2 := by kernel_rfl
theorem aB2 : aggT E.P 60 = some true := by kernel_rfl
set_option maxHeartbeats 1000000 in
theorem best_ok (x : Bool) (P : Rooms) (hP : RoomsOk P) (p : Pb) (hp : PbOk p) (A : List Int) (hA : areasF (lists P) = some A) (hv : validQ p.q = true) :
  ∃ k, (∀ r, best (prQ p.q) A = some r → Enc.Ok k r.2.1) ∧ pureCall E.P (L E) 8 [roomsV x P, p.val] = some (.tuple ⟨bestV k (best (prQ p.q) A)⟩) := by
 have ar := areas_call x P hP
 have sr : settled depth (roomsV x P) = true := rfl
 rw [hA] at ar
 have vs := valid_spec p hp
 rw [hv] at vs
 have rp := p.reify
 obtain ⟨ha1, ha2⟩ := areas_told hA
 have hAok : AOk A := ⟨by omega, fun a ha => by have := ha2 a ha; omega⟩
 have bs := begin_spec p hp (some false) A
 have ps := p.set
 have hroot := root_sr p hp hv A
 let H0 : Heap := [.cells 26 p.cells 0, .cells 34 [intE.o (some false) A] 0, .cells 35 [brR.sl 7 []] 0, .cells 34 [.slice none 0 0] 0, .cells 34 [.slice none 0 0] 0, .cells 3 [.int .i64 (-1)] 0, .cells 74 [visF] 0, brR.row 60 []]
 have C0 : Cs p (some false) A H0 ⟨-1, [], []⟩ [] none := ⟨by simp [H0], rfl, rfl, rfl, ⟨none, Enc.ok_nil, rfl⟩, ⟨_, rfl, .inl ⟨rfl, rfl, rfl⟩⟩, rfl, rfl, rfl⟩
 have V : ∀ n, VisN p false A n := by
  intro n
  induction n with
  | zero => exact vis_all p hp hv false A hAok 0 fun m hm => by omega
  | succ n ih => exact vis_all p hp hv false A hAok (n + 1) fun m hm => (show n = m by omega) ▸ ih
 obtain ⟨h', r1, ob', C1, _⟩ := V A.length (root (prQ p.q) A) (limL p.q) ⟨-1, [], []⟩ H0 none rfl hroot C0 (by decide) (fun b hb => by cases hb)
 have bv := Cp.best_vis (prQ p.q) A
 generalize vis (prQ p.q) A.length (root (prQ p.q) A) ⟨-1, [], []⟩ = a at *
 have C2 := C1.trim 8 [.tuple #[]] (by decide)
 have rc : retCall E (L E) 0 false 26 [stV (intE.o (some false) A) p (limL p.q) 0, cAt 5 0, cAt 4 0, cAt 3 0, cAt 1 0, cAt 2 0, cAt 0 0, cAt 6 0] H0 = some (.tuple #[], trim 8 [.tuple #[]] h') := by
  have r2 : L E 26 [stV (intE.o (some false) A) p (limL p.q) 0, cAt 5 0, cAt 4 0, cAt 3 0, cAt 1 0, cAt 2 0, cAt 0 0, cAt 6 0] H0 0 = _ := r1
  rw [ret3t m26, r2]; rfl
 generalize trim 8 [.tuple #[]] h' = h at *
 obtain ⟨kb, hkb, lbe⟩ := C2.be
 have l3 : loadT ⟨some false, some 1⟩ h (.pointer (some ⟨3, 0, none⟩)) = some (intE.o kb a.best) := obj_load (b := 3) (j := 0) lbe rfl
 have l5 : loadT ⟨some false, some 1⟩ h (.pointer (some ⟨5, 0, none⟩)) = some (.int .i64 a.val) := obj_load (b := 5) (j := 0) C2.va rfl
 have l2 : loadT ⟨some false, some 1⟩ h (.pointer (some ⟨2, 0, none⟩)) = some (brR.sl 7 a.tree) := obj_load (b := 2) (j := 0) C2.tr rfl
 have ll := Rec.sl_len (R := brR) (h := h) (b := 7) (l := a.tree)
 have rt := Rec.reify_row (R := brR) (P := E.P) (n := 7) C2.row sB2 aB2
 have rb : reify E.P 8 h (intE.o kb a.best) = some (intE.o kb a.best) := Enc.o_reify
 refine ⟨kb, fun r hr => ?_, ?_⟩
 ·rw [← bv] at hr
  unfold ended at hr
  split at hr
  ·cases hr
  ·have := Option.some.inj hr
   subst this; exact hkb
 rw [pureCall_fn F8 rfl]
 unfold areasV at ar
 have pe : p.val = .agg ⟨p.cells⟩ := rfl
 have lp : ∀ t, loadT ⟨some true, some 4⟩ (AObj.cells 26 p.cells 0 :: t) (.pointer (some ⟨0, 0, none⟩)) = some (.agg ⟨p.cells⟩) := fun t => obj_all (b := 0) rfl rfl
 rw [pe]
 have vs : pureCall E.P (L E) 25 [.agg ⟨p.cells⟩] = some (.bool true) := vs
 have rcp : ∀ h, reifyC E.P 7 h p.cells = some p.cells := fun h => reifyC_set (pb_all p)
 have ps7 : settled depth (.agg ⟨p.cells⟩) = true := ps
 have sa : settled depth (lst false (intE.vals A)) = true := rfl
 have bs : pureCall E.P (L E) 29 [lst false (intE.vals A), .agg ⟨p.cells⟩] = some (.agg ⟨stC (intE.o (some false) A) p (limL p.q) 0⟩) := bs
 have rc : retCall E (L E) 0 false 26 [.agg ⟨stC (intE.o (some false) A) p (limL p.q) 0⟩, .pointer (some ⟨5, 0, none⟩), .pointer (some ⟨4, 0, none⟩), .pointer (some ⟨3, 0, none⟩), .pointer (some ⟨1, 0, none⟩), .pointer (some ⟨2, 0, none⟩), .pointer (some ⟨0, 0, none⟩), .pointer (some ⟨6, 0, none⟩)]
   [.cells 26 p.cells 0, .cells 34 [lst false (intE.vals A)] 0, .cells 35 [.slice (some ⟨7, 0, some 0⟩) 0 0] 0, .cells 34 [.slice none 0 0] 0, .cells 34 [.slice none 0 0] 0, .cells 3 [.int .i64 (-1)] 0, .cells 74 [.func (.func 26) ⟨[]⟩ ⟨[.pointer (some ⟨5, 0, none⟩), .pointer (some ⟨4, 0, none⟩), .pointer (some ⟨3, 0, none⟩), .pointer (some ⟨1, 0, none⟩), .pointer (some ⟨2, 0, none⟩), .pointer (some ⟨0, 0, none⟩), .pointer (some ⟨6, 0, none⟩)]⟩] 0, .cells 60 [] 2] = some (.tuple #[], h) := rc
 have l0 : loadT ⟨some true, some 4⟩ h (.pointer (some ⟨0, 0, none⟩)) = some (.agg ⟨p.cells⟩) := obj_all (b := 0) C2.pr rfl
 have fnil : flat .nilFunc = true := rfl
 have cnil : cellsOf .nilFunc = some [.nilFunc] := rfl
 rw [← bv]
 unfold ended
 by_cases h4 : 4000 < a.tree.length
 ·have h4' : (4000 : Int) < a.tree.length := by omega
  rw [if_pos h4]
  simp -implicitDefEqProofs [r8, p8, ar, lp, ret0 m25, rcp, vs, prep_newc, newcK, sB2, isNil, ret1 m29, ps7, sa, bs, rc, fnil, cnil, l2, ll, h4', bestV]
 ·have h4' : ¬ ((4000 : Int) < a.tree.length) := by omega
  rw [if_neg h4]
  simp -implicitDefEqProofs [r8, p8, ar, lp, ret0 m25, rcp, vs, prep_newc, newcK, sB2, isNil, ret1 m29, ps7, sa, bs, rc, fnil, cnil, l2, l3, l5, ll, h4', rt, rb, bestV]
open Rg (Rect areaL)
open Cp (Q Br Acc Nd prQ validQ vis root ended best nameB badP)
theorem best_bad (x : Bool) (P : Rooms) (hP : RoomsOk P) (p : Pb) (hp : PbOk p) (h : areasF (lists P) = none ∨ validQ p.q = false) :
  pureCall E.P (L E) 8 [roomsV x P, p.val] = some (.tuple ⟨[.slice none 0 0, .int .i64 0, .slice none 0 0, .int .i64 1]⟩) := by
 have ar := areas_call x P hP
 have sr : settled depth (roomsV x P) = true := rfl
 have vs := valid_spec p hp
 have rcp : ∀ h, reifyC E.P 7 h p.cells = some p.cells := fun h => reifyC_set (pb_all p)
 have pe : p.val = .agg ⟨p.cells⟩ := rfl
 have lp : ∀ t, loadT ⟨some true, some 4⟩ (AObj.cells 26 p.cells 0 :: t) (.pointer (some ⟨0, 0, none⟩)) = some (.agg ⟨p.cells⟩) := fun t => obj_all (b := 0) rfl rfl
 rw [pureCall_fn F8 rfl, pe]
 cases ha : areasF (lists P) with
 | none =>
  rw [ha] at ar
  unfold areasV at ar
  simp -implicitDefEqProofs [r8, p8, ar]
 | some A =>
  rw [ha] at ar h
  unfold areasV at ar
  have hv : validQ p.q = false := h.resolve_left (by simp)
  rw [hv] at vs
  have vs : pureCall E.P (L E) 25 [.agg ⟨p.cells⟩] = some (.bool false) := vs
  simp -implicitDefEqProofs [r8, p8, ar, lp, ret0 m25, rcp, vs]
theorem few_spec (x : Bool) (P : Rooms) (p : Pb) (kl : Rec.Ok p.kl p.left) (kn : Rec.Ok p.kn p.never) (ok : ∀ r ∈ P, Rec.Ok r.1 r.2) (hl : P.length ≤ maxLen) :
  pureCall E.P (L E) 7 [roomsV x P, p.val] = some (.bool (P.all (fun r => decide (r.2.length ≤ 16)) && (decide (P.length ≤ 13) && (decide (p.left.length ≤ 40) && decide (p.never.length ≤ 40))))) := by
 unfold maxLen at hl
 have ln := fun h => rooms_len h x P
 have ix := rooms_index x P
 have bl : ∀ d n, below (d + 1) n (roomsV x P) = true := fun d n => rfl
 generalize roomsV x P = RV at *
 have l1 := pb_ld p 1 _ rfl
 have l3 := pb_ld p 3 _ rfl
 have n1 := fun h => Rec.o_len (R := entR) (h := h) kl
 have n3 := fun h => Rec.o_len (R := pairR) (h := h) kn
 have pe : p.val = .agg ⟨p.cells⟩ := rfl
 rw [pureCall_fn F7 rfl, pe]
 simp -implicitDefEqProofs [r7, p7]
 rw [LL_for (γ := Unit) P () (fun i _ => [(5, .int .i64 i)]) (fun _ _ => [.cells 26 p.cells 0]) (fun _ rest _ => if rest.all (fun r => decide (r.2.length ≤ 16)) = true then (.exit 0, [(5, undef)], [.cells 26 p.cells 0]) else (.ret, [(4, .bool false), (5, undef)], [.cells 26 p.cells 0])) (fun _ _ => True) (by omega) trivial]
 ·cases ha : P.all fun r => decide (r.2.length ≤ 16)
  ·simp -implicitDefEqProofs [k7_2, -List.all_eq_true]
  ·by_cases q1 : P.length ≤ 13
   ·have q1' : (P.length : Int) ≤ 13 := by omega
    by_cases q2 : p.left.length ≤ 40
    ·have q2' : (p.left.length : Int) ≤ 40 := by omega
     by_cases q3 : p.never.length ≤ 40
     ·have q3' : (p.never.length : Int) ≤ 40 := by omega
      simp -implicitDefEqProofs [k7_2, ln, l1, l3, n1, n3, q1, q1', q2, q2', q3, q3', -List.all_eq_true]
     ·have q3' : ¬ (p.never.length : Int) ≤ 40 := by omega
      simp -implicitDefEqProofs [k7_2, ln, l1, l3, n1, n3, q1, q1', q2, q2', q3, q3', -List.all_eq_true]
    ·have q2' : ¬ (p.left.length : Int) ≤ 40 := by omega
     simp -implicitDefEqProofs [k7_2, ln, l1, n1, q1, q1', q2, q2', -List.all_eq_true]
   ·have q1' : ¬ (P.length : Int) ≤ 13 := by omega
    simp -implicitDefEqProofs [k7_2, ln, q1, q1', -List.all_eq_true]
 ·simp -implicitDefEqProofs [k7_2]
 ·rfl
 ·intro nx i c hi _
  simp -implicitDefEqProofs [r7_2, k7_2, ln, hi, trim_le]
 ·intro nx i v rest c hi hv hd hw _ ih
  have hi' : (i : Int) < (P.length : Int) := by omega
  have ih := ih () trivial
  have xi := ix i hi
  rw [hv] at xi
  have lv := fun h => rooms_load h v
  have ll := fun h => Rec.o_len (R := rectR) (h := h) (ok v (hv ▸ List.getElem_mem hi))
  have ll : ∀ h, lenT .sl h (roomR v) = some (.int .i64 v.2.length) := ll
  rw [List.all_cons]
  by_cases q : v.2.length ≤ 16
  ·have q' : ¬ ((16 : Int) < v.2.length) := by omega
   rw [decide_eq_true q, Bool.true_and]
   simp -implicitDefEqProofs [k7_2, -List.all_eq_true] at ih
   simp -implicitDefEqProofs [r7_2, k7_2, ln, hi', xi, lv, ll, q', hw, trim_le, -List.all_eq_true]
   exact ih
  ·have q' : ((16 : Int) < v.2.length) := by omega
   rw [decide_eq_false q, Bool.false_and]
   simp -implicitDefEqProofs [r7_2, k7_2, ln, hi', xi, lv, ll, q', trim_le, -List.all_eq_true]
open Rg (Rect areaL)
open Cp (Q Br Acc Nd prQ validQ vis root ended best nameB badP)
theorem bad_or (p : Int × Int) : badP p = (decide (p.1 < 0) || (decide (5 < p.1) || (decide (p.2 < 0) || decide (5 < p.2)))) := by
 unfold badP
 rw [Bool.eq_iff_iff]
 simp only [Bool.or_eq_true, decide_eq_true_eq]
 omega
set_option maxHeartbeats 1000000 in
theorem rvalid_spec (p : Pb) (hp : PbOk p) : pureCall E.P (L E) 9 [p.val] = some (.bool (validQ p.q)) := by
 have l0 := pb_ld p 0 _ rfl
 have l1 := pb_ld p 1 _ rfl
 have l2 := pb_ld p 2 _ rfl
 have l3 := pb_ld p 3 _ rfl
 have n1 := fun h => Rec.o_len (R := entR) (h := h) hp.kl
 have n3 := fun h => Rec.o_len (R := pairR) (h := h) hp.kn
 have ix := fun (i : Nat) (hi : i < p.never.length) => Rec.o_index (R := pairR) (s := 2) (t := 54) (kk := .i64) rfl hp.kn hi
 have nn := hp.nn
 have e : validQ p.q = (decide (0 ≤ p.uses) && (decide (p.uses ≤ 63) && (decide (0 ≤ p.most) && (decide (p.left.length ≤ 30) && (decide (p.never.length ≤ 36) && !p.never.any badP))))) := rfl
 rw [e]
 rw [pureCall_fn F9 rfl]
 unfold Pb.val
 by_cases q1 : p.uses < 0
 ·have : ¬ 0 ≤ p.uses := by omega
  simp -implicitDefEqProofs [r9, p9, l0, q1, this]
 have q1' : 0 ≤ p.uses := by omega
 by_cases q2 : 63 < p.uses
 ·have : ¬ p.uses ≤ 63 := by omega
  simp -implicitDefEqProofs [r9, p9, l0, q1, q2, this]
 have q2' : p.uses ≤ 63 := by omega
 by_cases q3 : p.most < 0
 ·have : ¬ 0 ≤ p.most := by omega
  simp -implicitDefEqProofs [r9, p9, l0, l2, q1, q2, q3, this]
 have q3' : 0 ≤ p.most := by omega
 by_cases q4 : (30 : Int) < p.left.length
 ·have : ¬ p.left.length ≤ 30 := by omega
  simp -implicitDefEqProofs [r9, p9, l0, l1, l2, n1, q1, q2, q3, q4, this]
 have q4' : p.left.length ≤ 30 := by omega
 by_cases q5 : (36 : Int) < p.never.length
 ·have : ¬ p.never.length ≤ 36 := by omega
  simp -implicitDefEqProofs [r9, p9, l0, l1, l2, l3, n1, n3, q1, q2, q3, q4, q5, this]
 have q5' : p.never.length ≤ 36 := by omega
 rw [decide_eq_true q1', decide_eq_true q2', decide_eq_true q3', decide_eq_true q4', decide_eq_true q5']
 simp -implicitDefEqProofs [r9, p9, l0, l1, l2, l3, n1, n3, q1, q2, q3, q4, q5]
 rw [LL_for (γ := Unit) p.never () (fun i _ => [(3, .int .i64 i)]) (fun _ _ => [.cells 26 p.cells 0]) (fun _ rest _ => if rest.any badP = true then (.ret, [(2, .bool false), (3, undef)], [.cells 26 p.cells 0]) else (.exit 0, [(3, undef)], [.cells 26 p.cells 0])) (fun _ _ => True) (by omega) trivial]
 ·cases ha : p.never.any badP
  ·simp -implicitDefEqProofs [k9_4]
  ·simp -implicitDefEqProofs [k9_4]
 ·simp -implicitDefEqProofs [k9_4]
 ·rfl
 ·intro nx i c hi _
  simp -implicitDefEqProofs [r9_4, k9_4, l3, n3, hi, trim_le]
 ·intro nx i v rest c hi hv hd hw _ ih
  have hi' : (i : Int) < (p.never.length : Int) := by omega
  have ih := ih () trivial
  have xi := ix i hi
  rw [hv, pair_val] at xi
  have a0 : ∀ a b : Int, indexAddrT (.arr 2 ⟨some false, some 1⟩) (cptr (.agg ⟨[.int .i64 a, .int .i64 b]⟩)) (.int .i64 0) = some (cptr (.int .i64 a)) := fun a b => rfl
  have a1 : ∀ a b : Int, indexAddrT (.arr 2 ⟨some false, some 1⟩) (cptr (.agg ⟨[.int .i64 a, .int .i64 b]⟩)) (.int .i64 1) = some (cptr (.int .i64 b)) := fun a b => rfl
  have w0 : IntKind.i64.wrap (0 + 1) = 1 := rfl
  have w1 : IntKind.i64.wrap (1 + 1) = 2 := rfl
  have w1' : IntKind.i64.wrap 1 = 1 := rfl
  have w2' : IntKind.i64.wrap 2 = 2 := rfl
  have ea : (v :: rest).any badP = (badP v || rest.any badP) := rfl
  rw [ea, bad_or]
  simp -implicitDefEqProofs [k9_4] at ih
  simp -implicitDefEqProofs [r9_4, k9_4, l3, n3, hi']
  rw [LL_go]
  by_cases k1 : v.1 < 0
  ·simp -implicitDefEqProofs [r9_7, k9_7, k9_4, l3, xi, a0, k1, trim_le]
  by_cases k2 : 5 < v.1
  ·simp -implicitDefEqProofs [r9_7, k9_7, k9_4, l3, xi, a0, k1, k2, trim_le]
  simp -implicitDefEqProofs [r9_7, k9_7, k9_4, l3, xi, a0, k1, k2, w1', trim_le]
  rw [LL_go]
  by_cases k3 : v.2 < 0
  ·simp -implicitDefEqProofs [r9_7, k9_7, k9_4, l3, xi, a1, k3, trim_le]
  by_cases k4 : 5 < v.2
  ·simp -implicitDefEqProofs [r9_7, k9_7, k9_4, l3, xi, a1, k3, k4, trim_le]
  simp -implicitDefEqProofs [r9_7, k9_7, k9_4, l3, xi, a1, k3, k4, w2', trim_le]
  rw [LL_go]
  simp -implicitDefEqProofs [r9_7, k9_7, k9_4, hw, trim_le]
  rw [decide_eq_false k1, decide_eq_false k2, decide_eq_false k3, decide_eq_false k4]
  exact ih
open Rg (Rect)
open Cp (Q Br prQ validQ best)
def rm (n : Int) : Option Bool × List Rect := (some true, [⟨0, 0, n, 1⟩])
def three : Rooms := [rm 10, rm 8, rm 5]
def V3 : Value := lst true [lst true [.agg ⟨[.int .i64 0, .int .i64 0, .int .i64 10, .int .i64 1]⟩], lst true [.agg ⟨[.int .i64 0, .int .i64 0, .int .i64 8, .int .i64 1]⟩], lst true [.agg ⟨[.int .i64 0, .int .i64 0, .int .i64 5, .int .i64 1]⟩]]
theorem three_ok : RoomsOk three := ⟨fun r hr => by
  simp only [three, rm, List.mem_cons, List.not_mem_nil, or_false] at hr
  rcases hr with rfl | rfl | rfl <;> exact Rec.ok_some, fun r hr => by
  simp only [three, rm, List.mem_cons, List.not_mem_nil, or_false] at hr
  rcases hr with rfl | rfl | rfl <;> decide, by decide⟩
theorem three_areas : areasF (lists three) = some [10, 8, 5] := by kernel_rfl
set_option maxRecDepth 100000 in
theorem three_spec : pureCall E.P (L E) 14 [] = some V3 := pureCall_le (evF_L 20) (by kernel_rfl)
set_option maxRecDepth 100000 in
theorem row4_spec : pureCall E.P (L E) 16 [.int .i64 4] = some (lst true [.agg ⟨[.int .i64 0, .int .i64 0, .int .i64 4, .int .i64 1]⟩]) := pureCall_le (evF_L 20) (by kernel_rfl)
def p25a : Pb := ⟨3, none, [], 100, none, []⟩
def p25b : Pb := ⟨3, some true, [(⟨⟨[104, 111, 109, 101]⟩⟩, 12)], 100, some true, [(0, 1)]⟩
def p25c : Pb := ⟨1, none, [], 20, none, []⟩
def p25d : Pb := ⟨3, some true, [(⟨⟨[104, 111, 109, 101]⟩⟩, 9), (⟨⟨[115, 104, 111, 112]⟩⟩, 14)], 100, none, []⟩
theorem p25a_ok : PbOk p25a := ⟨fun _ => rfl, fun _ => rfl, by decide, by decide, by decide, by decide⟩
theorem p25b_ok : PbOk p25b := ⟨Rec.ok_some, Rec.ok_some, by decide, by decide, by decide, by decide⟩
theorem p25c_ok : PbOk p25c := ⟨fun _ => rfl, fun _ => rfl, by decide, by decide, by decide, by decide⟩
theorem p25d_ok : PbOk p25d := ⟨Rec.ok_some, fun _ => rfl, by decide, by decide, by decide, by decide⟩
theorem bs25a : best (prQ p25a.q) [10, 8, 5] = some (23, [0, 0, 0], [⟨2, 23⟩, ⟨2, 23⟩, ⟨2, 23⟩, ⟨0, 23⟩, ⟨0, 23⟩, ⟨0, 23⟩, ⟨0, 23⟩]) := by kernel_rfl
theorem bs25b : best (prQ p25b.q) [10, 8, 5] = some (23, [1, 1, 0], [⟨2, 23⟩, ⟨0, 23⟩, ⟨2, 23⟩, ⟨0, 23⟩, ⟨2, 23⟩, ⟨0, 23⟩, ⟨0, 23⟩]) := by kernel_rfl
theorem bs25c : best (prQ p25c.q) [10, 8, 5] = some (18, [0, 0], [⟨1, 20⟩, ⟨1, 20⟩, ⟨0, 20⟩]) := by kernel_rfl
theorem bs25d : best (prQ p25d.q) [10, 8, 5] = some (18, [1, 0], [⟨1, 23⟩, ⟨1, 23⟩, ⟨0, 23⟩]) := by kernel_rfl
theorem best3 (p : Pb) (hp : PbOk p) (hv : validQ p.q = true) {v : Int} {c : List Int} {t : List Br} (hb : best (prQ p.q) [10, 8, 5] = some (v, c, t)) : ∃ k, Enc.Ok k c ∧ pureCall E.P (L E) 8 [V3, .agg ⟨p.cells⟩] = some (.tuple ⟨[intE.o k c, .int .i64 v, lst false (brR.vals t), .int .i64 0]⟩) := by
 obtain ⟨k, h1, h2⟩ := best_ok true three three_ok p hp [10, 8, 5] three_areas hv
 rw [hb] at h2
 exact ⟨k, h1 _ hb, h2⟩
def roomE : Enc (Option Bool × List Rect) where
 e := roomR
 one r := by obtain ⟨k, l⟩ := r; cases k <;> rfl
 set r n := Rec.o_set
 bel r d n := Rec.o_bel
 fits r sz := Rec.o_fits
theorem pb_b2 (a b : Int) : buildT (.fs ⟨[.int .i64 0, .slice none 0 0, .int .i64 0, .slice none 0 0]⟩ ⟨[(0, 1), (1, 1), (2, 1), (3, 1)]⟩) #[(0, .int .i64 a), (2, .int .i64 b)] = some (.agg ⟨[.int .i64 a, .slice none 0 0, .int .i64 b, .slice none 0 0]⟩) := rfl
theorem pb_b3 (a b : Int) (l : List Value) : buildT (.fs ⟨[.int .i64 0, .slice none 0 0, .int .i64 0, .slice none 0 0]⟩ ⟨[(0, 1), (1, 1), (2, 1), (3, 1)]⟩) #[(0, .int .i64 a), (2, .int .i64 b), (1, lst true l)] = some (.agg ⟨[.int .i64 a, lst true l, .int .i64 b, .slice none 0 0]⟩) := rfl
theorem pb_b4 (a b : Int) (l m : List Value) : buildT (.fs ⟨[.int .i64 0, .slice none 0 0, .int .i64 0, .slice none 0 0]⟩ ⟨[(0, 1), (1, 1), (2, 1), (3, 1)]⟩) #[(0, .int .i64 a), (2, .int .i64 b), (1, lst true l), (3, lst true m)] = some (.agg ⟨[.int .i64 a, lst true l, .int .i64 b, lst true m]⟩) := rfl
theorem en_b (a : ByteArray) (b : Int) : buildT (.fs ⟨[.string ⟨⟨[]⟩⟩, .int .i64 0]⟩ ⟨[(0, 1), (1, 1)]⟩) #[(0, .string a), (1, .int .i64 b)] = some (.agg ⟨[.string a, .int .i64 b]⟩) := rfl
theorem sg2 (a b : Int) : settled depth (.agg ⟨[.int .i64 a, .slice none 0 0, .int .i64 b, .slice none 0 0]⟩) = true := rfl
theorem sg3 (a b : Int) (l : List Value) : settled depth (.agg ⟨[.int .i64 a, lst true l, .int .i64 b, .slice none 0 0]⟩) = true := rfl
theorem sg4 (a b : Int) (l m : List Value) : settled depth (.agg ⟨[.int .i64 a, lst true l, .int .i64 b, lst true m]⟩) = true := rfl
theorem lit_e1 (h : Heap) (s : ByteArray) (z : Int) : buildSliceT (some ⟨53, 2, 24, .agg ⟨[.string ⟨⟨[]⟩⟩, .int .i64 0]⟩, ⟨some true, some 2⟩⟩) false h 1 #[(0, .agg ⟨[.string s, .int .i64 z]⟩)] = some (lst true [.agg ⟨[.string s, .int .i64 z]⟩], h) :=
 (build_lit' (n := 1) (l := [(0, .agg ⟨[.string s, .int .i64 z]⟩)]) rfl rfl (by decide) (by decide) (by decide)).trans rfl
theorem lit_e2 (h : Heap) (s t : ByteArray) (z w : Int) : buildSliceT (some ⟨53, 2, 24, .agg ⟨[.string ⟨⟨[]⟩⟩, .int .i64 0]⟩, ⟨some true, some 2⟩⟩) false h 2 #[(0, .agg ⟨[.string s, .int .i64 z]⟩), (1, .agg ⟨[.string t, .int .i64 w]⟩)] = some (lst true [.agg ⟨[.string s, .int .i64 z]⟩, .agg ⟨[.string t, .int .i64 w]⟩], h) :=
 (build_lit' (n := 2) (l := [(0, .agg ⟨[.string s, .int .i64 z]⟩), (1, .agg ⟨[.string t, .int .i64 w]⟩)]) rfl rfl (by decide) (by decide) (by decide)).trans rfl
theorem lit_p1 (h : Heap) (z w : Int) : buildSliceT (some ⟨54, 2, 16, .agg ⟨[.int .i64 0, .int .i64 0]⟩, ⟨some true, some 2⟩⟩) false h 1 #[(0, .agg ⟨[.int .i64 z, .int .i64 w]⟩)] = some (lst true [.agg ⟨[.int .i64 z, .int .i64 w]⟩], h) :=
 (build_lit' (n := 1) (l := [(0, .agg ⟨[.int .i64 z, .int .i64 w]⟩)]) rfl rfl (by decide) (by decide) (by decide)).trans rfl
theorem arr_b (a b : Int) : buildT (.arr ⟨[.int .i64 0, .int .i64 0]⟩ 1) #[(0, .int .i64 a), (1, .int .i64 b)] = some (.agg ⟨[.int .i64 a, .int .i64 b]⟩) := rfl
theorem lit_i3 (h : Heap) (a b c : Int) : buildSliceT (some elInt) false h 3 #[(0, .int .i64 a), (1, .int .i64 b), (2, .int .i64 c)] = some (lst true [.int .i64 a, .int .i64 b, .int .i64 c], h) :=
 (build_lit' (n := 3) (l := [(0, .int .i64 a), (1, .int .i64 b), (2, .int .i64 c)]) rfl rfl (by decide) (by decide) (by decide)).trans rfl
theorem lit_i2 (h : Heap) (a b : Int) : buildSliceT (some elInt) false h 2 #[(0, .int .i64 a), (1, .int .i64 b)] = some (lst true [.int .i64 a, .int .i64 b], h) :=
 (build_lit' (n := 2) (l := [(0, .int .i64 a), (1, .int .i64 b)]) rfl rfl (by decide) (by decide) (by decide)).trans rfl
abbrev R4 : Value := .agg ⟨[.int .i64 0, .int .i64 0, .int .i64 4, .int .i64 1]⟩
abbrev elRs : El := ⟨22, 1, 24, .slice none 0 0, ⟨some false, some 1⟩⟩
theorem lit_r2 (h : Heap) : buildSliceT (some elRs) false h 2 #[(0, .slice none 0 0), (1, lst true [R4])] = some (lst true [.slice none 0 0, lst true [R4]], h) :=
 (build_lit' (n := 2) (l := [(0, .slice none 0 0), (1, lst true [R4])]) rfl rfl (by decide) (by decide) (by decide)).trans rfl
def H5 : AObj := .cells 22 [roomR (rm 10), roomR (rm 8), roomR (rm 5), .slice none 0 0, roomR (rm 4)] 1
theorem app_r2 : appendT (some elRs) [] 0 false V3 (lst true [.slice none 0 0, lst true [R4]]) = some (.slice (some ⟨0, 0, some 5⟩) 5 5, [H5]) := rfl
def five : Rooms := [rm 10, rm 8, rm 5, (none, []), rm 4]
theorem five_ok : RoomsOk five := ⟨fun r hr => by
  simp only [five, rm, List.mem_cons, List.not_mem_nil, or_false] at hr
  rcases hr with rfl | rfl | rfl | rfl | rfl <;> first | exact Rec.ok_some | exact fun _ => rfl, fun r hr => by
  simp only [five, rm, List.mem_cons, List.not_mem_nil, or_false] at hr
  rcases hr with rfl | rfl | rfl | rfl | rfl <;> decide, by decide⟩
theorem five_areas : areasF (lists five) = some [10, 8, 5] := by kernel_rfl
theorem frz5 : frzAll E.P 0 [.slice (some ⟨0, 0, some 5⟩) 5 5] [H5] = some ([roomsV false five], [.dead]) := by kernel_rfl
theorem areas5 : retCall E (L E) 0 false 15 [.slice (some ⟨0, 0, some 5⟩) 5 5] [H5] = some (.tuple ⟨[lst false (intE.vals [10, 8, 5]), .int .i64 0]⟩, [.dead]) := by
 have := areas_spec false five five_ok
 rw [five_areas] at this
 rw [ret4 m15, frz5, Option.bind_some, this]; rfl
theorem ints_of (k : Option Bool) (l : List Int) (hk : Enc.Ok k l) (hl : l.length ≤ 1000000) : pureCall E.P (L E) 17 [intE.o k l, lst true (intE.vals l)] = some (.bool true) := by
 have := ints25 k (some true) l l hk Enc.ok_some hl
 rw [decide_eq_true rfl] at this
 exact this
set_option maxHeartbeats 2000000 in
theorem small25_spec : pureCall E.P (L E) 4 [] = some (.bool true) := by
 obtain ⟨ka, qa, ba⟩ := best3 p25a p25a_ok (by kernel_rfl) bs25a
 obtain ⟨kb, qb, bb⟩ := best3 p25b p25b_ok (by kernel_rfl) bs25b
 obtain ⟨kc, qc, bc⟩ := best3 p25c p25c_ok (by kernel_rfl) bs25c
 obtain ⟨kd, qd, bd⟩ := best3 p25d p25d_ok (by kernel_rfl) bs25d
 have ba : pureCall E.P (L E) 8 [V3, .agg ⟨[.int .i64 3, .slice none 0 0, .int .i64 100, .slice none 0 0]⟩] = _ := ba
 have bb : pureCall E.P (L E) 8 [V3, .agg ⟨[.int .i64 3, lst true [.agg ⟨[.string ⟨⟨[104, 111, 109, 101]⟩⟩, .int .i64 12]⟩], .int .i64 100, lst true [.agg ⟨[.int .i64 0, .int .i64 1]⟩]]⟩] = _ := bb
 have bc : pureCall E.P (L E) 8 [V3, .agg ⟨[.int .i64 1, .slice none 0 0, .int .i64 20, .slice none 0 0]⟩] = _ := bc
 have bd : pureCall E.P (L E) 8 [V3, .agg ⟨[.int .i64 3, lst true [.agg ⟨[.string ⟨⟨[104, 111, 109, 101]⟩⟩, .int .i64 9]⟩, .agg ⟨[.string ⟨⟨[115, 104, 111, 112]⟩⟩, .int .i64 14]⟩], .int .i64 100, .slice none 0 0]⟩] = _ := bd
 have t3 := three_spec
 have rw4 := row4_spec
 have s3 : settled depth V3 = true := rfl
 have b7 : (brR.vals [⟨2, 23⟩, ⟨2, 23⟩, ⟨2, 23⟩, ⟨0, 23⟩, ⟨0, 23⟩, ⟨0, 23⟩, ⟨0, 23⟩]).length = 7 := rfl
 have x7 : indexAddrT (.sl 60 ⟨some true, some 2⟩) (lst false (brR.vals [⟨2, 23⟩, ⟨2, 23⟩, ⟨2, 23⟩, ⟨0, 23⟩, ⟨0, 23⟩, ⟨0, 23⟩, ⟨0, 23⟩])) (.int .i64 0) = some (cptr (.agg ⟨[.int .i64 2, .int .i64 23]⟩)) := rfl
 have l7 : ∀ h, loadT ⟨some true, some 2⟩ h (cptr (.agg ⟨[.int .i64 2, .int .i64 23]⟩)) = some (.agg ⟨[.int .i64 2, .int .i64 23]⟩) := fun _ => rfl
 have bb7 : buildT (.fs ⟨[.int .i64 0, .int .i64 0]⟩ ⟨[(0, 1), (1, 1)]⟩) #[(0, .int .i64 2), (1, .int .i64 23)] = some (.agg ⟨[.int .i64 2, .int .i64 23]⟩) := rfl
 have s4 : settled depth (.int .i64 4) = true := rfl
 have ia : pureCall E.P (L E) 17 [intE.o ka [0, 0, 0], lst true [.int .i64 0, .int .i64 0, .int .i64 0]] = _ := ints_of ka [0, 0, 0] qa (by decide)
 have ib : pureCall E.P (L E) 17 [intE.o kb [1, 1, 0], lst true [.int .i64 1, .int .i64 1, .int .i64 0]] = _ := ints_of kb [1, 1, 0] qb (by decide)
 have ic : pureCall E.P (L E) 17 [intE.o kc [0, 0], lst true [.int .i64 0, .int .i64 0]] = _ := ints_of kc [0, 0] qc (by decide)
 have id : pureCall E.P (L E) 17 [intE.o kd [1, 0], lst true [.int .i64 1, .int .i64 0]] = _ := ints_of kd [1, 0] qd (by decide)
 have i5 : pureCall E.P (L E) 17 [lst false (intE.vals [10, 8, 5]), lst true [.int .i64 10, .int .i64 8, .int .i64 5]] = _ := ints_of (some false) [10, 8, 5] Enc.ok_some (by decide)
 have ra : ∀ h, reify E.P 8 h (intE.o ka [0, 0, 0]) = some (intE.o ka [0, 0, 0]) := fun h => Enc.o_reify
 have rb : ∀ h, reify E.P 8 h (intE.o kb [1, 1, 0]) = some (intE.o kb [1, 1, 0]) := fun h => Enc.o_reify
 have rc : ∀ h, reify E.P 8 h (intE.o kc [0, 0]) = some (intE.o kc [0, 0]) := fun h => Enc.o_reify
 have rd : ∀ h, reify E.P 8 h (intE.o kd [1, 0]) = some (intE.o kd [1, 0]) := fun h => Enc.o_reify
 have beq : aBin E.P .eql 60 (.agg ⟨[.int .i64 2, .int .i64 23]⟩) (.agg ⟨[.int .i64 2, .int .i64 23]⟩) = some (.bool true) := by kernel_rfl
 rw [pureCall_fn F4 rfl]
 simp -implicitDefEqProofs [r4, p4, ret1 m14, t3, ret1 m16, rw4, ret1 m8, s3, s4, pb_b2, pb_b3, pb_b4, en_b, sg2, sg3, sg4, lit_e1, lit_e2, lit_p1, arr_b, ba, bb, bc, bd, lit_i3, lit_i2, lit_r2, app_r2, areas5, ret0 m17, ia, ib, ic, id, i5, ra, rb, rc, rd, beq, b7, x7, l7, bb7]
end Go.Proofs.Ythkddpgnhaeooaa.Bm
namespace Go.Proofs.Ythkddpgnhaeooaa.Rg
def growR (d : Int) (r : Rect) : Rect := ⟨max (r.x0 - d) 0, max (r.y0 - d) 0, min (r.x1 + d) 1048576, min (r.y1 + d) 1048576⟩
def growL (d : Int) (a : List Rect) : List Rect := a.map (growR d)
def Gro (d : Int) (S : Int → Int → Bool) (x y : Int) : Prop := (0 ≤ x ∧ x < 1048576 ∧ 0 ≤ y ∧ y < 1048576) ∧ ∃ i k, x - d ≤ i ∧ i ≤ x + d ∧ y - d ≤ k ∧ k ≤ y + d ∧ S i k = true
def Ero (d : Int) (S : Int → Int → Bool) (x y : Int) : Prop := ∀ i k, x - d ≤ i → i ≤ x + d → y - d ≤ k → k ≤ y + d → S i k = true
theorem ero_sub {d : Int} {S : Int → Int → Bool} (hd : 0 ≤ d) {x y : Int} (h : Ero d S x y) : S x y = true := h x y (by omega) (by omega) (by omega) (by omega)
theorem canS_weak : ∀ {c : List (Int × Int)} {b b' : Int}, canS b c → b' ≤ b → canS b' c
 | [], _, _, _, _ => trivial
 | (f, t) :: c, b, b', h, hb => ⟨by have := h.1; omega, h.2⟩
def shr (d : Int) (c : List (Int × Int)) : List (Int × Int) := c.filterMap fun s => if s.1 + d < s.2 - d then some (s.1 + d, s.2 - d) else none
theorem shr_cons {d : Int} {s : Int × Int} {c : List (Int × Int)} : shr d (s :: c) = (if s.1 + d < s.2 - d then [(s.1 + d, s.2 - d)] else []) ++ shr d c := by
 unfold shr
 rw [List.filterMap_cons]
 split
 ·rename_i h; split at h <;> simp_all
 ·rename_i h; split at h <;> simp_all
theorem shr_can {d : Int} (hd : 0 ≤ d) : ∀ {c : List (Int × Int)} {b : Int}, canS b c → canS (b + d) (shr d c)
 | [], _, _ => trivial
 | (f, t) :: c, b, h => by
  have ih := shr_can hd h.2.2
  have h1 := h.1
  have h2 := h.2.1
  rw [shr_cons]
  split
  ·rename_i h3
   simp only at h3
   exact ⟨by simp only; omega, h3, canS_weak ih (by simp only; omega)⟩
  ·exact canS_weak ih (by omega)
theorem hasS_true {c : List (Int × Int)} {y : Int} : hasS c y = true ↔ ∃ s ∈ c, s.1 ≤ y ∧ y < s.2 := by
 unfold hasS
 rw [List.any_eq_true]
 simp only [Bool.and_eq_true, decide_eq_true_eq]
theorem canS_end : ∀ {c : List (Int × Int)} {b : Int}, canS b c → ∀ s ∈ c, hasS c s.2 = false
 | [], _, _, s, hs => by cases hs
 | (f, t) :: c, b, h, s, hs => by
  rw [hasS_cons]
  rcases List.mem_cons.1 hs with rfl | hs
  ·rw [canS_low h.2.2 (Int.le_refl _)]
   simp
  ·rw [canS_end h.2.2 s hs]
   have : t < s.1 := by
    have key : ∀ {c : List (Int × Int)} {b : Int}, canS b c → ∀ s ∈ c, b < s.1 := by
     intro c
     induction c with
     | nil => intro _ _ s hs; cases hs
     | cons u c ih =>
      intro b h s hs
      obtain ⟨f, t⟩ := u
      rcases List.mem_cons.1 hs with rfl | hs
      ·exact h.1
      ·have := ih h.2.2 s hs; have := h.1; have := h.2.1; omega
    exact key h.2.2 s hs
   have := canS_all h.2.2 s hs
   have h4 : ¬ s.2 < t := by omega
   simp [h4]
theorem shr_has {d : Int} (hd : 0 ≤ d) {c : List (Int × Int)} (h : Can c) (y : Int) : hasS (shr d c) y = true ↔ ∀ k, y - d ≤ k → k ≤ y + d → hasS c k = true := by
 obtain ⟨b, hb⟩ : ∃ b, canS b c := by
  obtain ⟨b, hb, _⟩ := low_ex c []
  exact ⟨b, canS_ex h b hb⟩
 rw [hasS_true]
 constructor
 ·rintro ⟨s, hs, h1, h2⟩ k h3 h4
  obtain ⟨u, hu, e⟩ := List.mem_filterMap.1 hs
  split at e
  ·cases e
   exact hasS_true.2 ⟨u, hu, by simp only at h1; omega, by simp only at h2; omega⟩
  ·cases e
 ·intro hk
  obtain ⟨u, hu, h1, h2⟩ := hasS_true.1 (hk (y - d) (by omega) (by omega))
  have h3 : y + d < u.2 := by
   apply Classical.byContradiction
   intro hno
   have h4 := hk u.2 (by omega) (by omega)
   rw [canS_end hb u hu] at h4
   cases h4
  refine ⟨(u.1 + d, u.2 - d), List.mem_filterMap.2 ⟨u, hu, if_pos (by omega)⟩, by simp only; omega, by simp only; omega⟩
def comI (s : Int × Int) (b : List (Int × Int)) : List (Int × Int) := b.filterMap fun u => if max s.1 u.1 < min s.2 u.2 then some (max s.1 u.1, min s.2 u.2) else none
def comC (a b : List (Int × Int)) : List (Int × Int) := a.flatMap fun s => comI s b
theorem comI_cons {s u : Int × Int} {b : List (Int × Int)} : comI s (u :: b) = (if max s.1 u.1 < min s.2 u.2 then [(max s.1 u.1, min s.2 u.2)] else []) ++ comI s b := by
 unfold comI
 rw [List.filterMap_cons]
 split
 ·rename_i h; split at h <;> simp_all
 ·rename_i h; split at h <;> simp_all
theorem comI_can {s : Int × Int} : ∀ {b : List (Int × Int)} {m : Int}, canS m b → canS (max m (s.1 - 1)) (comI s b)
 | [], _, _ => trivial
 | (f, t) :: b, m, h => by
  have ih := comI_can (s := s) h.2.2
  have h1 := h.1
  have h2 := h.2.1
  rw [comI_cons]
  split
  ·rename_i h3
   simp only at h3
   exact ⟨by simp only; omega, h3, canS_weak ih (by simp only; omega)⟩
  ·exact canS_weak ih (by omega)
theorem canS_append : ∀ {I J : List (Int × Int)} {b t : Int}, canS b I → (∀ s ∈ I, s.2 ≤ t) → b ≤ t → canS t J → canS b (I ++ J)
 | [], J, b, t, _, _, hb, hJ => canS_weak hJ hb
 | (f, u) :: I, J, b, t, h, hI, hb, hJ => ⟨h.1, h.2.1, canS_append h.2.2 (fun s hs => hI s (by simp [hs])) (hI (f, u) (by simp)) hJ⟩
theorem comC_can : ∀ {a : List (Int × Int)} {b : List (Int × Int)} {m n : Int}, canS m a → canS n b → canS m (comC a b)
 | [], _, _, _, _, _ => trivial
 | (f, t) :: a, b, m, n, ha, hb => by
  have ih := comC_can ha.2.2 hb
  have h1 := ha.1
  have h2 := ha.2.1
  show canS m (comI (f, t) b ++ comC a b)
  refine canS_append (t := t) (canS_weak (comI_can (s := (f, t)) hb) (by simp only; omega)) (fun s hs => ?_) (by omega) ih
  obtain ⟨u, _, e⟩ := List.mem_filterMap.1 hs
  split at e
  ·cases e; simp only; omega
  ·cases e
theorem comC_has {a b : List (Int × Int)} {y : Int} : hasS (comC a b) y = true ↔ hasS a y = true ∧ hasS b y = true := by
 rw [hasS_true, hasS_true, hasS_true]
 constructor
 ·rintro ⟨s, hs, h1, h2⟩
  obtain ⟨u, hu, hs⟩ := List.mem_flatMap.1 hs
  obtain ⟨v, hv, e⟩ := List.mem_filterMap.1 hs
  split at e
  ·cases e
   simp only at h1 h2
   exact ⟨⟨u, hu, by omega, by omega⟩, v, hv, by omega, by omega⟩
  ·cases e
 ·rintro ⟨⟨u, hu, h1, h2⟩, v, hv, h3, h4⟩
  exact ⟨(max u.1 v.1, min u.2 v.2), List.mem_flatMap.2 ⟨u, hu, List.mem_filterMap.2 ⟨v, hv, if_pos (by omega)⟩⟩, by simp only; omega, by simp only; omega⟩
structure Win where
 next : Int
 gap : Bool
 first : Bool
 out : List (Int × Int)
def wstep (x d : Int) (w : Win) (s : Slab) : Win :=
 if w.gap = true ∨ s.x1 ≤ w.next ∨ x + d < s.x0 then w
 else if w.next < s.x0 then { w with gap := true }
 else if w.first = true then ⟨s.x1, w.gap, false, s.col⟩
 else ⟨s.x1, w.gap, w.first, comC w.out s.col⟩
def winC (T : List Slab) (x d : Int) : List (Int × Int) :=
 let w := T.foldl (wstep x d) ⟨x - d, false, true, []⟩
 if w.gap = true ∨ w.next ≤ x + d then [] else w.out
def rowT : List Slab → Prop
 | [] => True
 | s :: T => s.x0 < s.x1 ∧ Can s.col ∧ (∀ u ∈ T, s.x1 ≤ u.x0) ∧ rowT T
theorem rowT_pos : ∀ {T : List Slab}, rowT T → ∀ s ∈ T, s.x0 < s.x1 ∧ Can s.col
 | [], _, s, hs => by cases hs
 | u :: T, h, s, hs => by
  rcases List.mem_cons.1 hs with rfl | hs
  ·exact ⟨h.1, h.2.1⟩
  ·exact rowT_pos h.2.2.2 s hs
theorem wstep_gap {x d : Int} : ∀ (T : List Slab) (w : Win), w.gap = true → (T.foldl (wstep x d) w).gap = true
 | [], _, h => h
 | s :: T, w, h => by
  rw [List.foldl_cons]
  have : wstep x d w s = w := if_pos (.inl h)
  rw [this]
  exact wstep_gap T w h
def winR (x d : Int) (w : Win) : List (Int × Int) := if w.gap = true ∨ w.next ≤ x + d then [] else w.out
theorem win_ok {x d : Int} (hd : 0 ≤ d) : ∀ (T : List Slab) (w : Win), rowT T → w.gap = false → Can w.out → (w.first = true → w.next ≤ x + d ∧ w.out = []) → (w.first = false → ∀ s ∈ T, w.next ≤ s.x0) →
  Can (winR x d (T.foldl (wstep x d) w)) ∧ ∀ y, hasS (winR x d (T.foldl (wstep x d) w)) y = true ↔ (w.first = true ∨ hasS w.out y = true) ∧ ∀ i, w.next ≤ i → i ≤ x + d → ∃ s ∈ T, s.x0 ≤ i ∧ i < s.x1 ∧ hasS s.col y = true
 | [], w, _, hg, hc, hf, _ => by
  rw [List.foldl_nil]
  unfold winR
  rw [hg]
  by_cases h : w.next ≤ x + d
  ·rw [if_pos (.inr h)]
   refine ⟨trivial, fun y => Iff.intro (fun h => by cases h) fun h' => ?_⟩
   obtain ⟨s, hs, _⟩ := h'.2 w.next (Int.le_refl _) h
   cases hs
  ·rw [if_neg (by simp [h])]
   show Can w.out ∧ ∀ y, hasS w.out y = true ↔ _
   refine ⟨hc, fun y => Iff.intro (fun h' => ⟨.inr h', fun i h1 h2 => by have : w.next ≤ i := h1; omega⟩) fun h' => h'.1.resolve_left fun h1 => h (hf h1).1⟩
 | s :: T, w, hT, hg, hc, hf, hn => by
  obtain ⟨hs, hcs, hST, hT'⟩ := hT
  rw [List.foldl_cons]
  by_cases c1 : s.x1 ≤ w.next ∨ x + d < s.x0
  ·have e : wstep x d w s = w := if_pos (.inr c1)
   rw [e]
   obtain ⟨i1, i2⟩ := win_ok hd T w hT' hg hc hf fun h u hu => hn h u (by simp [hu])
   refine ⟨i1, fun y => ?_⟩
   rw [i2]
   refine and_congr_right fun _ => forall_congr' fun i => forall_congr' fun h1 => forall_congr' fun h2 => ⟨fun ⟨u, hu, h⟩ => ⟨u, by simp [hu], h⟩, fun ⟨u, hu, h⟩ => ?_⟩
   rcases List.mem_cons.1 hu with rfl | hu
   ·omega
   ·exact ⟨u, hu, h⟩
  ·by_cases c2 : w.next < s.x0
   ·have e : wstep x d w s = { w with gap := true } := by
     unfold wstep
     rw [if_neg (by rw [hg]; simp; omega), if_pos c2]
    rw [e]
    have hgap := wstep_gap (x := x) (d := d) T { w with gap := true } rfl
    have e2 : winR x d (T.foldl (wstep x d) { w with gap := true }) = [] := if_pos (.inl hgap)
    rw [e2]
    refine ⟨trivial, fun y => Iff.intro (fun h => by cases h) fun h => ?_⟩
    obtain ⟨u, hu, h1, h2, _⟩ := h.2 w.next (Int.le_refl _) (by omega)
    rcases List.mem_cons.1 hu with rfl | hu
    ·omega
    ·have := hST u hu; omega
   ·have c3 : s.x0 ≤ w.next ∧ w.next < s.x1 ∧ s.x0 ≤ x + d := by omega
    have hnx : w.next ≤ x + d := by
     cases hfw : w.first
     ·have := hn hfw s (by simp); omega
     ·exact (hf hfw).1
    have split : ∀ y, (∀ i, w.next ≤ i → i ≤ x + d → ∃ u ∈ s :: T, u.x0 ≤ i ∧ i < u.x1 ∧ hasS u.col y = true) ↔ hasS s.col y = true ∧ ∀ i, s.x1 ≤ i → i ≤ x + d → ∃ u ∈ T, u.x0 ≤ i ∧ i < u.x1 ∧ hasS u.col y = true := fun y => by
     constructor
     ·intro h
      refine ⟨?_, fun i h1 h2 => ?_⟩
      ·obtain ⟨u, hu, h1, h2, h3⟩ := h w.next (Int.le_refl _) hnx
       rcases List.mem_cons.1 hu with rfl | hu
       ·exact h3
       ·have := hST u hu; omega
      ·obtain ⟨u, hu, h3⟩ := h i (by omega) h2
       rcases List.mem_cons.1 hu with rfl | hu
       ·omega
       ·exact ⟨u, hu, h3⟩
     ·rintro ⟨h1, h2⟩ i h3 h4
      by_cases h5 : i < s.x1
      ·exact ⟨s, by simp, by omega, h5, h1⟩
      ·obtain ⟨u, hu, h6⟩ := h2 i (by omega) h4
       exact ⟨u, by simp [hu], h6⟩
    cases hfw : w.first
    ·have e : wstep x d w s = ⟨s.x1, w.gap, w.first, comC w.out s.col⟩ := by
      unfold wstep
      rw [if_neg (by rw [hg]; simp; omega), if_neg c2, if_neg (by rw [hfw]; simp)]
     rw [e, hg, hfw]
     have hcc : Can (comC w.out s.col) := by
      obtain ⟨b1, hb1, _⟩ := low_ex w.out []
      obtain ⟨b2, hb2, _⟩ := low_ex s.col []
      exact Can.of (comC_can (canS_ex hc b1 hb1) (canS_ex hcs b2 hb2))
     obtain ⟨i1, i2⟩ := win_ok hd T ⟨s.x1, false, false, comC w.out s.col⟩ hT' rfl hcc (fun h => by cases h) fun _ u hu => hST u hu
     refine ⟨i1, fun y => ?_⟩
     rw [i2, split y]
     simp only [Bool.false_eq_true, false_or, comC_has]
     exact and_assoc
    ·have e : wstep x d w s = ⟨s.x1, w.gap, false, s.col⟩ := by
      unfold wstep
      rw [if_neg (by rw [hg]; simp; omega), if_neg c2, if_pos hfw]
     rw [e, hg]
     obtain ⟨i1, i2⟩ := win_ok hd T ⟨s.x1, false, false, s.col⟩ hT' rfl hcs (fun h => by cases h) fun _ u hu => hST u hu
     refine ⟨i1, fun y => ?_⟩
     rw [i2, split y]
     simp only [Bool.false_eq_true, false_or, true_or, true_and]
theorem winC_ok {x d : Int} (hd : 0 ≤ d) {T : List Slab} (h : rowT T) : Can (winC T x d) ∧ ∀ y, hasS (winC T x d) y = true ↔ ∀ i, x - d ≤ i → i ≤ x + d → ∃ s ∈ T, s.x0 ≤ i ∧ i < s.x1 ∧ hasS s.col y = true := by
 obtain ⟨h1, h2⟩ := win_ok (x := x) hd T ⟨x - d, false, true, []⟩ h rfl trivial (fun _ => ⟨by simp only; omega, rfl⟩) (fun h => by cases h)
 refine ⟨h1, fun y => (h2 y).trans ?_⟩
 simp
def slabsC (d : Int) (T : List Slab) : List Slab := T.map fun s => ⟨s.x0, s.x1, shr d s.col⟩
theorem canT_row {d : Int} (hd : 0 ≤ d) : ∀ {T : List Slab} {b : Int} {c : List (Int × Int)}, canT b c T → rowT (slabsC d T)
 | [], _, _, _ => trivial
 | s :: T, b, c, h => by
  have hf := canT_facts h.2.2.2.2.2
  refine ⟨h.2.1, ?_, fun u hu => ?_, canT_row hd h.2.2.2.2.2⟩
  ·obtain ⟨b, hb, _⟩ := low_ex s.col []
   exact Can.of (shr_can hd (canS_ex h.2.2.2.1 b hb))
  ·obtain ⟨v, hv, rfl⟩ := List.mem_map.1 hu
   exact (hf.2 v hv).1
noncomputable def eroB (d : Int) (S : Int → Int → Bool) (x y : Int) : Bool := @decide (Ero d S x y) (Classical.propDecidable _)
theorem eroB_true {d : Int} {S : Int → Int → Bool} {x y : Int} : eroB d S x y = true ↔ Ero d S x y := by
 unfold eroB; exact @decide_eq_true_iff _ (Classical.propDecidable _)
theorem cellT_ex {T : List Slab} {x y : Int} : cellT T x y = true ↔ ∃ s ∈ T, s.x0 ≤ x ∧ x < s.x1 ∧ hasS s.col y = true := by
 unfold cellT
 rw [List.any_eq_true]
 simp only [Bool.and_eq_true, decide_eq_true_eq]
 exact ⟨fun ⟨s, hs, h⟩ => ⟨s, hs, h.1.1, h.1.2, h.2⟩, fun ⟨s, hs, h1, h2, h3⟩ => ⟨s, hs, ⟨h1, h2⟩, h3⟩⟩
theorem win_ero {d : Int} (hd : 0 ≤ d) {T : List Slab} {b : Int} {c : List (Int × Int)} (h : canT b c T) (x y : Int) : hasS (winC (slabsC d T) x d) y = eroB d (cell (outT T)) x y := by
 rw [Bool.eq_iff_iff, (winC_ok hd (canT_row hd h)).2 y, eroB_true]
 have hcan := (canT_facts h).2
 constructor
 ·intro hw i k h1 h2 h3 h4
  obtain ⟨u, hu, g1, g2, g3⟩ := hw i h1 h2
  obtain ⟨s, hs, rfl⟩ := List.mem_map.1 hu
  rw [cell_outT, cellT_in h s hs i k g1 g2]
  exact (shr_has hd (hcan s hs).2.2 y).1 g3 k h3 h4
 ·intro he i h1 h2
  have h0 := he i y h1 h2 (by omega) (by omega)
  rw [cell_outT] at h0
  obtain ⟨s, hs, g1, g2, _⟩ := cellT_ex.1 h0
  refine ⟨⟨s.x0, s.x1, shr d s.col⟩, List.mem_map.2 ⟨s, hs, rfl⟩, g1, g2, (shr_has hd (hcan s hs).2.2 y).2 fun k h3 h4 => ?_⟩
  have h5 := he i k h1 h2 h3 h4
  rw [cell_outT, cellT_in h s hs i k g1 g2] at h5
  exact h5
def shrinkX (d : Int) (T : List Slab) : List Int := sortU (T.flatMap fun s => [s.x0 + d, s.x1 + d, s.x0 - d, s.x1 - d])
def shrinkL (d : Int) (T : List Slab) : List Rect := outT (runsF (stripL (fun x => winC (slabsC d T) x d) (shrinkX d T)))
theorem shrink_ok {d : Int} (hd : 0 ≤ d) {T : List Slab} {b : Int} {c : List (Int × Int)} (h : canT b c T) : Form (shrinkL d T) ∧ ∀ x y, cell (shrinkL d T) x y = eroB d (cell (outT T)) x y := by
 have hrow := canT_row hd h
 have hx : ∀ s ∈ T, s.x0 + d ∈ shrinkX d T ∧ s.x1 + d ∈ shrinkX d T ∧ s.x0 - d ∈ shrinkX d T ∧ s.x1 - d ∈ shrinkX d T := fun s hs => by
  unfold shrinkX
  simp only [sortU_mem]
  exact ⟨List.mem_flatMap.2 ⟨s, hs, by simp⟩, List.mem_flatMap.2 ⟨s, hs, by simp⟩, List.mem_flatMap.2 ⟨s, hs, by simp⟩, List.mem_flatMap.2 ⟨s, hs, by simp⟩⟩
 have hE : EdgesX (T.flatMap fun s => [(⟨s.x0 + d, 0, s.x1 + d, 0⟩ : Rect), ⟨s.x0 - d, 0, s.x1 - d, 0⟩]) (shrinkX d T) := fun r hr => by
  obtain ⟨s, hs, hr⟩ := List.mem_flatMap.1 hr
  have := hx s hs
  simp only [List.mem_cons, List.not_mem_nil, or_false] at hr
  rcases hr with rfl | rfl
  ·exact ⟨this.1, this.2.1⟩
  ·exact ⟨this.2.2.1, this.2.2.2⟩
 have one : ∀ x x', (∀ r ∈ T.flatMap fun s => [(⟨s.x0 + d, 0, s.x1 + d, 0⟩ : Rect), ⟨s.x0 - d, 0, s.x1 - d, 0⟩], (r.x0 ≤ x ↔ r.x0 ≤ x') ∧ (x < r.x1 ↔ x' < r.x1)) → ∀ y, Ero d (cell (outT T)) x y → Ero d (cell (outT T)) x' y := by
  intro x x' hr y he i k h1 h2 h3 h4
  have hs : ∀ s ∈ T, ((s.x0 + d ≤ x ↔ s.x0 + d ≤ x') ∧ (x < s.x1 + d ↔ x' < s.x1 + d)) ∧ (s.x0 - d ≤ x ↔ s.x0 - d ≤ x') ∧ (x < s.x1 - d ↔ x' < s.x1 - d) := fun s hs =>
   ⟨hr ⟨s.x0 + d, 0, s.x1 + d, 0⟩ (List.mem_flatMap.2 ⟨s, hs, by simp⟩), hr ⟨s.x0 - d, 0, s.x1 - d, 0⟩ (List.mem_flatMap.2 ⟨s, hs, by simp⟩)⟩
  have move : ∀ j, (∀ s ∈ T, (s.x0 ≤ j ↔ s.x0 ≤ i) ∧ (j < s.x1 ↔ i < s.x1)) → cell (outT T) j k = true → cell (outT T) i k = true := fun j hj hc => by
   rw [cell_outT] at hc ⊢
   rw [← hc]
   exact any_ext fun s hs => by
    obtain ⟨q1, q2⟩ := hj s hs
    simp only [q1, q2]
  by_cases c1 : i < x - d
  ·exact move (x - d) (fun s hs' => by have := hs s hs'; omega) (he (x - d) k (by omega) (by omega) h3 h4)
  ·by_cases c2 : x + d < i
   ·exact move (x + d) (fun s hs' => by have := hs s hs'; omega) (he (x + d) k (by omega) (by omega) h3 h4)
   ·exact he i k (by omega) (by omega) h3 h4
 have hS : Steps (T.flatMap fun s => [(⟨s.x0 + d, 0, s.x1 + d, 0⟩ : Rect), ⟨s.x0 - d, 0, s.x1 - d, 0⟩]) (eroB d (cell (outT T))) := by
  refine ⟨fun x x' hr y => ?_, fun x hr y => ?_⟩
  ·rw [Bool.eq_iff_iff, eroB_true, eroB_true]
   exact ⟨one x x' hr y, one x' x (fun r h => ⟨(hr r h).1.symm, (hr r h).2.symm⟩) y⟩
  ·rw [Bool.eq_false_iff]
   intro he
   have h0 := eroB_true.1 he (x + d) y (by omega) (by omega) (by omega) (by omega)
   rw [cell_outT] at h0
   obtain ⟨s, hs, g1, g2, _⟩ := cellT_ex.1 h0
   exact hr ⟨s.x0 - d, 0, s.x1 - d, 0⟩ (List.mem_flatMap.2 ⟨s, hs, by simp⟩) ⟨by simp only; omega, by simp only; omega⟩
 exact strips_form hS (sortU_asc _) hE (fun x => winC (slabsC d T) x d) (fun x => (winC_ok hd hrow).1) fun x _ y => win_ero hd h x y
def gapR (r s : Rect) : Int := max 0 (max (max r.x0 s.x0 - min r.x1 s.x1) (max r.y0 s.y0 - min r.y1 s.y1))
end Go.Proofs.Ythkddpgnhaeooaa.Rg
namespace Go.Proofs.Ythkddpgnhaeooaa.Bm
open Go Go.RowKit
open Rg (Rect cell growR growL gapR)
theorem ovalid_spec (k : Option Bool) (a : List Rect) (d : Int) (hk : Rec.Ok k a) (ha : a.length ≤ 1000000) : pureCall E.P (L E) 19 [rectR.o k a, .int .i64 d] = some (.bool (decide (0 ≤ d) && decide (d ≤ 1048576) && regB a)) := by
 have hr := right2_spec k a hk ha
 rw [pureCall_fn F19 rfl]
 by_cases h1 : 0 ≤ d
 case neg => simp -implicitDefEqProofs [r19, padS, h1]
 by_cases h2 : d ≤ 1048576
 case neg => simp -implicitDefEqProofs [r19, padS, h1, h2]
 cases h3 : regB a <;> simp -implicitDefEqProofs [r19, padS, h1, h2, ret0 m40, Rec.o_reify, hr, h3]
def validB (a : List Rect) (d : Int) : Bool := decide (0 ≤ d) && decide (d ≤ 1048576) && regB a
end Go.Proofs.Ythkddpgnhaeooaa.Bm
