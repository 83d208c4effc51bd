/-
 Chapter 32: rights of which one is replaced, walked. Conditions: lists that are not too long.
-/
import Derived.Test.YtjkemccfcabhgaaGreatQB20
import Derived.Test.YtjkemccfcabhgaaGreatQB17
namespace Go.Proofs.YtjkemccfcabhgaaGreat.Bm
open Go Go.RowKit
open Rg (Rect Pt)
open Cw (top pre pre_le pre_top pre_len)
theorem rt_val (r : Rt) : rtR.val r = .agg ⟨[.int .i64 r.id, .int .i64 r.hol, .int .i64 r.lot, phR.o r.kp r.ph, .int .i64 r.used, .int .i64 r.til, .bool r.over]⟩ := rfl
theorem rt_reify (r : Rt) (h : Heap) : reify E.P 8 h (rtR.val r) = some (rtR.val r) := by
 show (reifyC E.P 7 h (rtC r)).map _ = _
 rw [reifyC_set (rtC_set r 7)]; rfl
structure RtFew (r : Rt) : Prop where
 kp : Rec.Ok r.kp r.ph
 ph : PhsOk r.ph
theorem liv_spec (r : Rt) (hk : Rec.Ok r.kp r.ph) : pureCall E.P (L E) 48 [rtR.val r] = some (.bool (livR r)) := by
 have ll := fun h => Rec.o_len (R := phR) (h := h) hk
 rw [rt_val, pureCall_fn F48 rfl]
 unfold livR
 generalize phR.o r.kp r.ph = V at *
 cases ho : r.over
 case true => simp -implicitDefEqProofs [r48, p48]
 by_cases h1 : 0 ≤ r.used
 case neg => simp -implicitDefEqProofs [r48, p48, h1]
 simp -implicitDefEqProofs [r48, p48, ll, h1]
theorem rec_drop {α : Type} {R : Rec α} {x : Bool} {t : TypeId} {g : Option Bool} {h : Heap} {l : List α} {n : Nat} {k : IntKind} (hn : n ≤ l.length) {s : Nat} (hs : s = R.m + 1) : sliceT (.sl t ⟨g, some s⟩) h (lst x (R.vals l)) (some (.int k (n : Int))) none none = some (lst x (R.vals (l.drop n))) := by
 subst hs
 have := slice_drop (h := h) (x := x) (t := t) (g := g) (k := k) (Rec.vals_all (R := R) l) (rfl : ((n : Nat) : Int) = ((n : Nat) : Int)) (by rw [Rec.vals_len]; exact hn)
 rw [this]
 unfold Rec.vals
 rw [List.map_drop]
def kL (r : Rt) : Option Bool := if livR r = true then some false else none
theorem kL_ok (r : Rt) : Rec.Ok (kL r) ((leftR r).map cloP) := by
 unfold kL leftR
 cases livR r
 ·exact fun _ => rfl
 ·exact Rec.ok_some
theorem PhsOk.drop {l : List Ph} (h : PhsOk l) (n : Nat) : PhsOk (l.drop n) := ⟨fun p hp => h.ok p (List.mem_of_mem_drop hp), fun p hp => h.few p (List.mem_of_mem_drop hp), by rw [List.length_drop]; have := h.len; omega⟩
theorem left_spec (r : Rt) (hr : RtFew r) : pureCall E.P (L E) 33 [rtR.val r] = some (phR.o (kL r) ((leftR r).map cloP)) := by
 have hl := liv_spec r hr.kp
 have hrr := fun h => rt_reify r h
 rw [rt_val] at hl hrr ⊢
 rw [pureCall_fn F33 rfl]
 unfold kL leftR
 cases h : livR r
 ·rw [h] at hl
  generalize phR.o r.kp r.ph = V at *
  simp -implicitDefEqProofs [r33, p33, ret0 m48, hl, hrr]
  rfl
 ·rw [h] at hl
  have hu : 0 ≤ r.used ∧ r.used < r.ph.length := by
   unfold livR at h
   simp only [Bool.and_eq_true, decide_eq_true_eq] at h
   exact h.2
  obtain ⟨x, hx⟩ : ∃ x, r.kp = some x := by
   cases hk : r.kp with
   | none => have := hr.kp hk; rw [this] at hu; simp at hu; omega
   | some x => exact ⟨x, rfl⟩
  have dr := fun h => rec_drop (R := phR) (x := x) (t := 64) (g := some true) (h := h) (l := r.ph) (n := r.used.toNat) (k := .i64) (s := 2) (by omega) rfl
  rw [Int.toNat_of_nonneg hu.1] at dr
  have hp := phases_spec (some x) (r.ph.drop r.used.toNat) Rec.ok_some (hr.ph.drop _)
  have e1 : phR.o r.kp r.ph = lst x (phR.vals r.ph) := by rw [hx]; rfl
  have e2 : phR.o (some x) (r.ph.drop r.used.toNat) = lst x (phR.vals (r.ph.drop r.used.toNat)) := rfl
  have s1 : settled depth (lst x (phR.vals (r.ph.drop r.used.toNat))) = true := rfl
  rw [← e1] at dr
  rw [e2] at hp
  generalize lst x (phR.vals (r.ph.drop r.used.toNat)) = W at *
  generalize phR.o r.kp r.ph = V at *
  simp -implicitDefEqProofs [r33, p33, ret0 m48, hl, hrr, dr, ret1 m49, hp, s1]
  rfl
end Go.Proofs.YtjkemccfcabhgaaGreat.Bm
namespace Go.Proofs.YtjkemccfcabhgaaGreat.Bm
open Go Go.RowKit
open Rg (Rect Pt)
open Cw (top pre pre_le pre_top pre_len IsMax max_unique)
abbrev elI : El := ⟨3, 1, 8, .int .i64 0, ⟨some false, some 1⟩⟩
theorem lit_int (h : Heap) (z : Int) : buildSliceT (some elI) false h 1 #[(0, .int .i64 z)] = some (lst true (intE.vals [z]), h) := Enc.lit (O := intE) z rfl rfl rfl
theorem sI : szOf E.P 3 = some 1 := by kernel_rfl
theorem aI : aggT E.P 3 = some false := by kernel_rfl
theorem iE (z : Int) : intE.e z = .int .i64 z := rfl
structure Small (l : List Int) : Prop where
 lo : ∀ x ∈ l, -2199023255552000 ≤ x
 hi : ∀ x ∈ l, x ≤ 2199023255552000
 len : l.length ≤ 1000
def bndP (n : Int) (i : Nat) : Prop := -(i : Int) * 2199023255552000 ≤ n ∧ n ≤ (i : Int) * 2199023255552000
theorem bndP_step {z w : Int} {i : Nat} (h : bndP z i) (h1 : -2199023255552000 ≤ w) (h2 : w ≤ 2199023255552000) : bndP (z + w) (i + 1) := by
 unfold bndP at *
 constructor <;> omega
theorem bndP_le {z : Int} {i : Nat} (h : bndP z i) (hi : i ≤ 1000) : -2199023255552000000 ≤ z ∧ z ≤ 2199023255552000000 := by
 unfold bndP at h
 omega
theorem pre_cons (n a : Int) (l : List Int) : pre n (a :: l) = (n + a) :: pre (n + a) l := rfl
def pV (l : List Int) : Value := if l.length ≤ 1 then lst true (intE.vals l) else Enc.sl 0 l
def pH (l : List Int) : Heap := if l.length ≤ 1 then [] else [intE.row 3 l]
theorem trim_noS {n : Nat} {vs : List Value} {h : Heap} (hv : vs.all (below 8 n) = false) : trim n vs h = h := by
 unfold trim
 split
 ·rfl
 ·have hv' : vs.all (below depth n) = false := hv
  rw [hv', Bool.false_and]; rfl
theorem trim_slot {n : Nat} {h : Heap} : ∀ (s : Nat) (σ : Slots), below 8 n (slot σ s) = false → trim n σ h = h := fun s σ hs => trim_noS (by
 induction σ generalizing s with
 | nil => exact absurd hs (by show ¬ below 8 n undef = false; rw [show below 8 n undef = true from rfl]; decide)
 | cons a l ih =>
  rw [List.all_cons]
  cases s with
  | zero =>
   have hs : below 8 n a = false := hs
   rw [hs, Bool.false_and]
  | succ s => rw [ih s hs, Bool.and_false])
theorem sl_not (l : List Int) : below 8 0 (Enc.sl 0 l) = false := rfl
theorem app_pV (n w : Int) (lo : Nat) : appendT (some elI) [] lo false (lst true (intE.vals [n])) (lst true (intE.vals [w])) = some (Enc.sl 0 [n, w], [intE.row 3 [n, w]]) := by
 rw [append_lst, Enc.cells_tree]; rfl
set_option maxHeartbeats 2000000 in
theorem prefixes_spec (k : Option Bool) (l : List Int) (hk : Enc.Ok k l) (hl : Small l) : pureCall E.P (L E) 35 [intE.o k l] = some (intE.o (some (decide (l.length = 0))) (0 :: pre 0 l)) := by
 have ll := fun h => Enc.o_len (O := intE) (h := h) hk
 have il := fun (i : Nat) (hi : i < l.length) => Enc.index_o (O := intE) (t := 3) (k := .i64) hk hi
 have vb : ∀ d n, below (d + 1) n (intE.o k l) = true := fun d n => Enc.o_bel
 have hlen := hl.len
 generalize intE.o k l = VL at *
 rw [pureCall_fn F35 rfl]
 have l0 : ∀ h, buildSliceT (some elI) false h 1 #[(0, .int .i64 0)] = some (lst true (intE.vals [0]), h) := fun h => lit_int h 0
 simp -implicitDefEqProofs [r35, p35, ll, l0]
 rw [LL_for (γ := List Int × Int) l ([0], 0) (fun i a => [(3, pV a.1), (9, .int .i64 i)]) (fun _ a => pH a.1) (fun i rest a => (.exit 0, [(3, pV (a.1 ++ pre a.2 rest)), (9, undef)], pH (a.1 ++ pre a.2 rest))) (fun i a => a.1.length = i + 1 ∧ a.1[i]? = some a.2 ∧ bndP a.2 i) (by omega) ⟨rfl, rfl, by unfold bndP; omega⟩]
 ·have e : (0 :: pre 0 l) = [0] ++ pre 0 l := rfl
  have hW : ([0] ++ pre 0 l).length = l.length + 1 := by rw [List.length_append, Cw.pre_len, List.length_singleton]; omega
  rw [e]
  generalize [0] ++ pre 0 l = W at *
  by_cases q : l.length = 0
  ·have rr : reifyR E.P (pH W) (pV W) = some (intE.o (some (decide (l.length = 0))) W) := by
    unfold pH pV
    rw [if_pos (by omega), if_pos (by omega), decide_eq_true q]
    exact Enc.o_reifyR (O := intE) (k := some true)
   simp -implicitDefEqProofs [k35_3, rr]
   done
  ·have rr : reifyR E.P (pH W) (pV W) = some (intE.o (some (decide (l.length = 0))) W) := by
    unfold pH pV
    rw [if_neg (by omega), if_neg (by omega), decide_eq_false q]
    exact Enc.reifyR_sl (O := intE) (P := E.P) (h := [intE.row 3 W]) (b := 0) (t := 3) (l := W) rfl sI aI
   simp -implicitDefEqProofs [k35_3, rr]
   done
 ·simp -implicitDefEqProofs [k35_3]
  rfl
 ·rfl
 ·intro nx i a hi _
  show _ = fin _ (.exit 0, [(3, pV (a.1 ++ [])), (9, undef)], pH (a.1 ++ []))
  rw [List.append_nil]
  simp -implicitDefEqProofs [r35_3, k35_3, hi, trim_le]
  done
 ·intro nx i v rest a hi hv hd hw ha ih
  obtain ⟨acc, n⟩ := a
  obtain ⟨h1, h2, h3⟩ := ha
  simp only at h1 h2 h3
  have hi2 : ((i : Int) < l.length) := by omega
  have x1 := il i hi
  rw [hv] at x1
  have hm : v ∈ l := by rw [← hv]; exact List.getElem_mem hi
  have hb := bndP_le h3 (by omega)
  have hv1 := hl.lo v hm
  have hv2 := hl.hi v hm
  have hia : i < acc.length := by omega
  have e2 : acc[i] = n := by
   rw [List.getElem?_eq_getElem hia] at h2
   exact Option.some.inj h2
  have ew : IntKind.i64.wrap (n + v) = n + v := wrap64 (by omega) (by omega)
  have lt := fun h => lit_int h (n + v)
  have ih := ih (acc ++ [n + v], n + v) ⟨by simp [h1], by simp [h1], bndP_step h3 hv1 hv2⟩
  rw [pre_cons, show acc ++ (n + v) :: pre (n + v) rest = (acc ++ [n + v]) ++ pre (n + v) rest by simp]
  have a1 : pV (acc ++ [n + v]) = Enc.sl 0 (acc ++ [n + v]) := if_neg (by rw [List.length_append, h1]; show ¬ (i + 1 + 1 ≤ 1); omega)
  have a2 : pH (acc ++ [n + v]) = [intE.row 3 (acc ++ [n + v])] := if_neg (by rw [List.length_append, h1]; show ¬ (i + 1 + 1 ≤ 1); omega)
  dsimp only at ih ⊢
  generalize hR : acc ++ [n + v] ++ pre (n + v) rest = R at *
  rw [a1, a2] at ih
  by_cases q : i = 0
  ·subst q
   obtain ⟨b, rfl⟩ : ∃ b, acc = [b] := by
    match acc, h1 with
    | [b], _ => exact ⟨b, rfl⟩
   obtain rfl : b = n := e2
   have b1 : pV [b] = lst true (intE.vals [b]) := if_pos (by simp)
   have b2 : pH [b] = [] := if_pos (by simp)
   have ix : indexAddrT (.sl 3 ⟨some false, some 1⟩) (lst true (intE.vals [b])) (.int .i64 0) = some (cptr (.int .i64 b)) := rfl
   have ap := app_pV b (b + v)
   have hi3 : 0 < l.length := hi
   rw [show ((0 : Nat) : Int) = 0 from rfl] at x1 hw
   rw [show (0 : Int) + 1 = 1 from rfl] at hw
   have ns := sl_not ([b] ++ [b + v])
   rw [b1, b2]
   simp -implicitDefEqProofs [k35_3, -List.append_assoc] at ih
   simp -implicitDefEqProofs [r35_3, k35_3, hi2, hi3, x1, ix, ew, lt, ap, hw, -List.append_assoc, iE]
   rw [trim_slot 3 _ rfl]
   exact ih
  ·have b1 : pV acc = Enc.sl 0 acc := if_neg (by omega)
   have b2 : pH acc = [intE.row 3 acc] := if_neg (by omega)
   have ix := Enc.sl_index (l := acc) (b := 0) (t := 3) (g := some false) (k := .i64) hia
   have ld := fun h (hob : h[0]? = some (intE.row 3 acc)) => Enc.load_at (O := intE) (l := acc) (b := 0) (t := 3) (sz := some 1) (h := h) hob hia
   rw [e2] at ld
   have ap := fun h (hob : h[0]? = some (intE.row 3 acc)) => Enc.app (O := intE) (el := elI) (h := h) (b := 0) (lo := 0) (l := acc) (m := [n + v]) (u := lst true (intE.vals [n + v])) rfl hob Enc.cells_tree (Nat.zero_le _) (by show (acc.length + 1) * 8 ≤ 2 ^ 47; omega)
   rw [b1, b2]
   simp -implicitDefEqProofs [k35_3, -List.append_assoc] at ih
   simp -implicitDefEqProofs [r35_3, k35_3, hi2, x1, ix, ld, ew, lt, ap, hw, trim_le, -List.append_assoc, iE]
   exact ih
def maxF (a : Int) (l : List Int) : Int := l.foldl max a
theorem maxF_cons (a b : Int) (l : List Int) : maxF a (b :: l) = maxF (max a b) l := rfl
theorem maxF_is : ∀ (l : List Int) (a : Int), IsMax (a :: l) (maxF a l)
 | [], a => ⟨by show a ∈ [a]; simp, fun x hx => by simp at hx; rw [hx]; exact Int.le_refl _⟩
 | b :: l, a => by
  rw [maxF_cons]
  obtain ⟨h1, h2⟩ := maxF_is l (max a b)
  have h3 := h2 (max a b) List.mem_cons_self
  refine ⟨?_, fun x hx => ?_⟩
  ·rcases List.mem_cons.1 h1 with h | h
   ·by_cases q : a ≤ b
    ·rw [h, Int.max_eq_right q]; simp
    ·rw [h, Int.max_eq_left (by omega)]; simp
   ·exact List.mem_cons_of_mem _ (List.mem_cons_of_mem _ h)
  ·rcases List.mem_cons.1 hx with rfl | hx
   ·omega
   ·rcases List.mem_cons.1 hx with rfl | hx
    ·omega
    ·exact h2 x (List.mem_cons_of_mem _ hx)
set_option maxHeartbeats 2000000 in
theorem max_spec (k : Option Bool) (a : Int) (l : List Int) (hk : Enc.Ok k (a :: l)) (hl : l.length ≤ 1000000) : pureCall E.P (L E) 24 [intE.o k (a :: l)] = some (.int .i64 (maxF a l)) := by
 have ll := fun h => Enc.o_len (O := intE) (h := h) hk
 have il := fun (i : Nat) (hi : i < (a :: l).length) => Enc.index_o (O := intE) (t := 3) (k := .i64) hk hi
 have i0 := il 0 (by simp)
 have x0 : intE.e (a :: l)[0] = .int .i64 a := rfl
 rw [x0] at i0
 generalize intE.o k (a :: l) = VL at *
 rw [pureCall_fn F24 rfl]
 have lg : ¬ ((a :: l).length : Int) < 1 := by simp only [List.length_cons]; omega
 have e0 : ((0 : Nat) : Int) = 0 := rfl
 rw [e0] at i0
 have lc : ((a :: l).length : Int) = (l.length : Int) + 1 := by simp only [List.length_cons]; omega
 rw [lc] at ll lg
 simp -implicitDefEqProofs [r24, p24, ll, lg, i0]
 rw [LL_for (γ := Int) l a (fun i z => [(3, .int .i64 z), (4, .int .i64 ((i : Int) + 1))]) (fun _ _ => []) (fun i rest z => (.exit 0, [(3, .int .i64 (maxF z rest)), (4, undef)], [])) (fun _ _ => True) (by omega) trivial]
 ·simp -implicitDefEqProofs [k24_5]
 ·simp -implicitDefEqProofs [k24_5]
 ·rfl
 ·intro nx i z hi _
  have e : maxF z [] = z := rfl
  rw [e]
  simp -implicitDefEqProofs [r24_5, k24_5, hi, ll, trim_le]
 ·intro nx i v rest z hi hv hd hw _ ih
  have ih := ih (max z v) trivial
  have x1 := il (i + 1) (by simp only [List.length_cons]; omega)
  have e1 : (a :: l)[i + 1]'(by simp only [List.length_cons]; omega) = v := by rw [List.getElem_cons_succ, hv]
  rw [e1] at x1
  have e2 : (((i + 1 : Nat)) : Int) = (i : Int) + 1 := by omega
  rw [e2] at x1 ih
  have hi2 : ((i : Int) + 1 < (l.length : Int) + 1) := by omega
  have hw2 : IntKind.i64.wrap ((i : Int) + 1 + 1) = (i : Int) + 1 + 1 := wrap64 (by omega) (by omega)
  rw [maxF_cons]
  simp -implicitDefEqProofs [k24_5] at ih
  simp -implicitDefEqProofs [r24_5, k24_5, hi2, ll, x1, iE, max_int, hw2, trim_le]
  exact ih
theorem max_top (l : List Int) : maxF 0 (pre 0 l) = top l := by
 refine max_unique (maxF_is (pre 0 l) 0) ⟨?_, fun x hx => ?_⟩
 ·rcases pre_top l 0 with h | h
  ·rw [h]; exact List.mem_cons_self
  ·rw [Int.zero_add] at h; exact List.mem_cons_of_mem _ h
 ·rcases List.mem_cons.1 hx with rfl | hx
  ·exact Cw.top_ge l
  ·have := pre_le l 0 x hx
   omega
theorem peakO_spec (k : Option Bool) (l : List Int) (hk : Enc.Ok k l) (hl : Small l) : pureCall E.P (L E) 27 [intE.o k l] = some (.int .i64 (top l)) := by
 have h1 := prefixes_spec k l hk hl
 have h2 := max_spec (some (decide (l.length = 0))) 0 (pre 0 l) Enc.ok_some (by rw [Cw.pre_len]; have := hl.len; omega)
 rw [max_top] at h2
 have s1 : settled depth (intE.o k l) = true := Enc.o_set
 have r1 : ∀ h, reify E.P 8 h (intE.o (some (decide (l.length = 0))) (0 :: pre 0 l)) = some (intE.o (some (decide (l.length = 0))) (0 :: pre 0 l)) := fun h => Enc.o_reify
 generalize intE.o (some (decide (l.length = 0))) (0 :: pre 0 l) = W at *
 generalize intE.o k l = V at *
 rw [pureCall_fn F27 rfl]
 simp -implicitDefEqProofs [r27, p27, ret1 m35, h1, s1, r1, ret0 m24, h2]
end Go.Proofs.YtjkemccfcabhgaaGreat.Bm
namespace Go.Proofs.YtjkemccfcabhgaaGreat.Bm
open Go Go.RowKit
open Rg (Rect Pt)
open Cw (top)
def rtO (r : Rt) (V : Value) : AObj := .cells 60 [.int .i64 r.id, .int .i64 r.hol, .int .i64 r.lot, V, .int .i64 r.used, .int .i64 r.til, .bool r.over] 0
theorem PhsOk.clo {l : List Ph} (h : PhsOk l) : PhsOk (l.map cloP) :=
 ⟨fun p hp => by obtain ⟨q, hq, rfl⟩ := List.mem_map.1 hp; exact cloP_ok (h.ok q hq), fun p hp => by obtain ⟨q, hq, rfl⟩ := List.mem_map.1 hp; exact cloP_few (h.few q hq), by rw [List.length_map]; exact h.len⟩
theorem left_ok {r : Rt} (hr : RtFew r) : PhsOk ((leftR r).map cloP) := by
 unfold leftR
 split
 ·exact (hr.ph.drop _).clo
 ·exact ⟨fun p hp => absurd hp (by simp), fun p hp => absurd hp (by simp), by simp⟩
theorem loadsR_small (ts : List Tb) (c : Cc) {r : Rt} (hr : RtFew r) : Small (loadsR ts c r) := by
 have hl := left_ok hr
 have e : loadsR ts c r = ((leftR r).map cloP).map (phaseL ts c) := by
  unfold loadsR
  rw [List.map_map]; rfl
 rw [e]
 refine ⟨fun x hx => ?_, fun x hx => ?_, by rw [List.length_map]; exact hl.len⟩
 ·obtain ⟨p, hp, rfl⟩ := List.mem_map.1 hx
  have := (phaseL_in ts c (hl.few p hp)).1; omega
 ·obtain ⟨p, hp, rfl⟩ := List.mem_map.1 hx
  exact (phaseL_in ts c (hl.few p hp)).2
set_option maxHeartbeats 4000000 in
theorem loads_spec (p : Pn) (hp : PnOk p) (c : Cc) (hc : c.cs.length ≤ 1000000) (r : Rt) (hr : RtFew r) : pureCall E.P (L E) 22 [pnV p, ccV c, rtR.val r] = some (lst false (intE.vals (loadsR p.ts c r))) := by
 have hleft := left_spec r hr
 have hlo := left_ok hr
 have hlk := kL_ok r
 have hrr := fun h => rt_reify r h
 have hpr := fun h => pn_reify p h
 have hph := phase_spec p hp c hc
 have e : loadsR p.ts c r = ((leftR r).map cloP).map (phaseL p.ts c) := by
  unfold loadsR
  rw [List.map_map]; rfl
 have sr : settled depth (rtR.val r) = true := rtC_set r 6
 have sc : settled depth (lst c.x (spanR.vals c.cs)) = true := rfl
 rw [e]
 generalize (leftR r).map cloP = l at *
 have ll := fun h => Rec.o_len (R := phR) (h := h) hlk
 have il := fun (i : Nat) (hi : i < l.length) => Rec.o_index (R := phR) (s := 2) (t := 64) (kk := .i64) rfl hlk hi
 have b1 : ∀ d n, below (d + 1) n (tbR.o p.kt p.ts) = true := fun d n => Rec.o_bel
 have b2 : ∀ d n, below (d + 1) n (phR.o r.kp r.ph) = true := fun d n => Rec.o_bel
 have b3 : ∀ d n, below (d + 1) n (phR.o (kL r) l) = true := fun d n => Rec.o_bel
 have ob : ∀ d n o, below (d + 1) n (opV o) = true := fun d n o => op_bel
 have hlen := hlo.len
 rw [rt_val] at *
 rw [pureCall_fn F22 rfl]
 unfold ccV ccC pnV pnC at *
 generalize tbR.o p.kt p.ts = VT at *
 generalize phR.o r.kp r.ph = VP at *
 generalize phR.o (kL r) l = VL at *
 simp -implicitDefEqProofs [r22, p22, prep_new, newK_nil sI, ret1 m33, hleft, sr, ll]
 rw [LL_for (γ := List Int) l [] (fun i acc => [(7, Enc.sl 3 acc), (13, .int .i64 i)]) (fun _ acc => [pnO p VT, ccO c, rtO r VP, intE.row 3 acc]) (fun i rest acc => (.exit 0, [(7, Enc.sl 3 (acc ++ rest.map (phaseL p.ts c))), (13, undef)], [pnO p VT, ccO c, rtO r VP, intE.row 3 (acc ++ rest.map (phaseL p.ts c))])) (fun i acc => acc.length = i) (by omega) rfl]
 ·have rr := Enc.reifyR_sl (O := intE) (P := E.P) (h := [pnO p VT, ccO c, rtO r VP, intE.row 3 (l.map (phaseL p.ts c))]) (b := 3) (t := 3) (l := l.map (phaseL p.ts c)) rfl sI aI
  generalize l.map (phaseL p.ts c) = W at *
  simp -implicitDefEqProofs [k22_3, rr]
 ·simp -implicitDefEqProofs [k22_3, Enc.sl]
 ·rfl
 ·intro nx i acc hi _
  rw [List.map_nil, List.append_nil]
  unfold pnO ccO rtO
  simp -implicitDefEqProofs [r22_3, k22_3, hi, trim_le]
 ·intro nx i v rest acc hi hv hd hw ha ih
  have hi2 : ((i : Int) < l.length) := by omega
  have x1 := il i hi
  have hm : v ∈ l := by rw [← hv]; exact List.getElem_mem hi
  have hs := hph v (hlo.ok v hm) (hlo.few v hm)
  have hvr := fun h => ph_reify v h
  rw [hv] at x1
  rw [ph_val] at x1 hs hvr
  have b4 : ∀ d n, below (d + 1) n (volR.o v.kv v.vs) = true := fun d n => Rec.o_bel
  have b5 : ∀ d n, below (d + 1) n (entR.o v.kg v.gs) = true := fun d n => Rec.o_bel
  have s4 : ∀ n, settled (n + 1) (volR.o v.kv v.vs) = true := fun n => Rec.o_set
  have s5 : ∀ n, settled (n + 1) (entR.o v.kg v.gs) = true := fun n => Rec.o_set
  have lt := fun h => lit_int h (phaseL p.ts c v)
  have ap := fun h (hob : h[3]? = some (intE.row 3 acc)) => Enc.app (O := intE) (el := elI) (h := h) (b := 3) (lo := 0) (l := acc) (m := [phaseL p.ts c v]) (u := lst true (intE.vals [phaseL p.ts c v])) rfl hob Enc.cells_tree (Nat.zero_le _) (by show (acc.length + 1) * 8 ≤ 2 ^ 47; omega)
  have ih := ih (acc ++ [phaseL p.ts c v]) (by rw [List.length_append, ha]; rfl)
  rw [List.map_cons, show acc ++ phaseL p.ts c v :: rest.map (phaseL p.ts c) = (acc ++ [phaseL p.ts c v]) ++ rest.map (phaseL p.ts c) by simp]
  generalize volR.o v.kv v.vs = V1 at *
  generalize entR.o v.kg v.gs = V2 at *
  generalize phaseL p.ts c v = z at *
  unfold pnO ccO rtO at *
  simp -implicitDefEqProofs [k22_3, -List.append_assoc] at ih
  simp -implicitDefEqProofs [r22_3, k22_3, hi2, x1, ret0 m19, hs, hpr, hvr, lt, ap, hw, trim_cut, ob, b1, b2, b3, Enc.row_bel, Enc.sl_bel, -List.append_assoc]
  exact ih
end Go.Proofs.YtjkemccfcabhgaaGreat.Bm
namespace Go.Proofs.YtjkemccfcabhgaaGreat.Bm
open Go Go.RowKit
open Rg (Rect Pt)
open Cw (top)
structure RsFew (k : Option Bool) (l : List Rt) : Prop where
 k : Rec.Ok k l
 r : ∀ r ∈ l, RtFew r
 len : l.length ≤ 1000
theorem pn_settled (p : Pn) : settled depth (pnV p) = true := pnC_set p 6
theorem rt_settled (r : Rt) : settled depth (rtR.val r) = true := rtC_set r 6
theorem pk_build (a : ByteArray) (b : Int) : buildT (.fs ⟨[.string ⟨⟨[]⟩⟩, .int .i64 0, .slice none 0 0]⟩ ⟨[(0, 1), (1, 1), (2, 1)]⟩) #[(0, .string a), (1, .int .i64 b)] = some (.agg ⟨[.string a, .int .i64 b, .slice none 0 0]⟩) := rfl
def pkO (a : ByteArray) (b : Int) (acc : List Int) : AObj := .cells 44 [.string a, .int .i64 b, Enc.sl 4 acc] 0
def pkZ : AObj := .cells 44 [.string ⟨⟨[]⟩⟩, .int .i64 0, .slice none 0 0] 0
set_option maxHeartbeats 4000000 in
theorem peak_spec (t : Tw) (ht : TwFew t) (c : Cc) (hc : c.cs.length ≤ 1000000) (k : Option Bool) (l : List Rt) (hl : RsFew k l) : pureCall E.P (L E) 8 [twV t, rtR.o k l, ccV c] = some (pkV ⟨c.nm, loadT32 t c, some false, l.map (topR t.p.ts c)⟩) := by
 have hload := loadT_spec t ht c hc
 have htr := fun h => tw_reify t h
 have hls := loads_spec t.p ht.p c hc
 have ll := fun h => Rec.o_len (R := rtR) (h := h) hl.k
 have il := fun (i : Nat) (hi : i < l.length) => Rec.o_index (R := rtR) (s := 7) (t := 60) (kk := .i64) rfl hl.k hi
 have sp := pn_settled t.p
 have sc : settled depth (lst c.x (spanR.vals c.cs)) = true := rfl
 have scc : settled depth (ccV c) = true := rfl
 have b1 : ∀ d n, below (d + 1) n (tbR.o t.p.kt t.p.ts) = true := fun d n => Rec.o_bel
 have b2 : ∀ d n, below (d + 1) n (rtR.o k l) = true := fun d n => Rec.o_bel
 have b3 : ∀ d n, below (d + 1) n (pdR.o t.kb t.bs) = true := fun d n => Rec.o_bel
 have b4 : ∀ d n, below (d + 1) n (entR.o t.ke t.es) = true := fun d n => Rec.o_bel
 have ob : ∀ d n o, below (d + 1) n (opV o) = true := fun d n o => op_bel
 have pb := pk_build c.nm (loadT32 t c)
 have hlen := hl.len
 have eR : ∀ W : List Int, pkV ⟨c.nm, loadT32 t c, some false, W⟩ = .agg ⟨[.string c.nm, .int .i64 (loadT32 t c), lst false (intE.vals W)]⟩ := fun W => rfl
 rw [eR]
 rw [pureCall_fn F8 rfl]
 unfold ccV ccC twV twC pnV pnC at *
 generalize tbR.o t.p.kt t.p.ts = VT at *
 generalize pdR.o t.kb t.bs = VB at *
 generalize entR.o t.ke t.es = VE at *
 generalize rtR.o k l = VL at *
 generalize loadT32 t c = n0 at *
 simp -implicitDefEqProofs [r8, p8, ret0 m10, hload, htr, pb, prep_newc, newcK, isNil, sI, ll]
 rw [LL_for (γ := List Int) l [] (fun i acc => [(18, .int .i64 i)]) (fun _ acc => [twO t VT VB VE, ccO c, pkZ, pkO c.nm n0 acc, intE.row 3 acc]) (fun i rest acc => (.exit 0, [(18, undef)], [twO t VT VB VE, ccO c, pkZ, pkO c.nm n0 (acc ++ rest.map (topR t.p.ts c)), intE.row 3 (acc ++ rest.map (topR t.p.ts c))])) (fun i acc => acc.length = i) (by omega) rfl]
 ·have rr := fun n => Enc.reify_sl (O := intE) (P := E.P) (d := n) (h := [twO t VT VB VE, ccO c, .cells 44 [.string c.nm, .int .i64 n0, Enc.sl 4 (l.map (topR t.p.ts c))] 0, pkO c.nm n0 (l.map (topR t.p.ts c)), intE.row 3 (l.map (topR t.p.ts c))]) (b := 4) (t := 3) (l := l.map (topR t.p.ts c)) rfl sI aI
  have ss : ∀ n, settled (n + 1) (Enc.sl 4 (l.map (topR t.p.ts c))) = false := fun n => rfl
  generalize l.map (topR t.p.ts c) = W at *
  unfold pkO pkZ at *
  simp -implicitDefEqProofs [k8_3, rr, ss, reifyC_map]
  done
 ·simp -implicitDefEqProofs [k8_3]
 ·rfl
 ·intro nx i acc hi _
  rw [List.map_nil, List.append_nil]
  unfold pkO pkZ twO ccO
  simp -implicitDefEqProofs [r8_3, k8_3, hi, trim_le]
 ·intro nx i v rest acc hi hv hd hw ha ih
  have hi2 : ((i : Int) < l.length) := by omega
  have x1 := il i hi
  have hm : v ∈ l := by rw [← hv]; exact List.getElem_mem hi
  have hs := hls v (hl.r v hm)
  have htp := peakO_spec (some false) (loadsR t.p.ts c v) Enc.ok_some (loadsR_small t.p.ts c (hl.r v hm))
  have eI : intE.o (some false) (loadsR t.p.ts c v) = lst false (intE.vals (loadsR t.p.ts c v)) := rfl
  rw [eI] at htp
  have eT : top (loadsR t.p.ts c v) = topR t.p.ts c v := rfl
  rw [eT] at htp
  have hvs := rt_settled v
  rw [hv] at x1
  rw [rt_val] at x1 hs hvs
  have r6 : ∀ h, reify E.P 8 h (lst false (intE.vals (loadsR t.p.ts c v))) = some (lst false (intE.vals (loadsR t.p.ts c v))) := fun h => Enc.o_reify (O := intE) (k := some false)
  have co : ∀ W : List Int, cellsOf (Enc.sl 4 W) = some [Enc.sl 4 W] := fun _ => rfl
  have b6 : ∀ d n, below (d + 1) n (phR.o v.kp v.ph) = true := fun d n => Rec.o_bel
  have lt := fun h => lit_int h (topR t.p.ts c v)
  have ap := fun h (hob : h[4]? = some (intE.row 3 acc)) => Enc.app (O := intE) (el := elI) (h := h) (b := 4) (lo := 0) (l := acc) (m := [topR t.p.ts c v]) (u := lst true (intE.vals [topR t.p.ts c v])) rfl hob Enc.cells_tree (Nat.zero_le _) (by show (acc.length + 1) * 8 ≤ 2 ^ 47; omega)
  have ih := ih (acc ++ [topR t.p.ts c v]) (by rw [List.length_append, ha]; rfl)
  rw [List.map_cons, show acc ++ topR t.p.ts c v :: rest.map (topR t.p.ts c) = (acc ++ [topR t.p.ts c v]) ++ rest.map (topR t.p.ts c) by simp]
  generalize phR.o v.kp v.ph = V1 at *
  generalize lst false (intE.vals (loadsR t.p.ts c v)) = V2 at *
  generalize topR t.p.ts c v = z at *
  unfold pkO pkZ twO ccO at *
  simp -implicitDefEqProofs [k8_3, -List.append_assoc] at ih
  simp -implicitDefEqProofs [r8_3, k8_3, hi2, x1, ret1 m22, hs, sp, scc, hvs, ret0 m27, htp, r6, lt, ap, hw, trim_cut, ob, b1, b2, b3, b4, Enc.row_bel, Enc.sl_bel, co, -List.append_assoc]
  with_reducible exact ih
end Go.Proofs.YtjkemccfcabhgaaGreat.Bm
namespace Go.Proofs.YtjkemccfcabhgaaGreat.Bm
open Go Go.RowKit
open Rg (Rect Pt)
open Cw (top)
def subW (n : Int) (l : List Int) : Int := l.foldl (fun n t => IntKind.i64.wrap (n - t)) n
theorem subW_cons (n t : Int) (l : List Int) : subW n (t :: l) = subW (IntKind.i64.wrap (n - t)) l := rfl
def slackW (lim base : Int) (tops : List Int) : Int := subW (IntKind.i64.wrap (lim - base)) tops
def topsR (t : Tw) (c : Cc) (l : List Rt) : List Int := l.map (topR t.p.ts c)
def pkF (a : ByteArray) (b : Int) (V : Value) : AObj := .cells 44 [.string a, .int .i64 b, V] 0
set_option maxHeartbeats 4000000 in
theorem slack_spec (t : Tw) (ht : TwFew t) (c : Cc) (hc : c.cs.length ≤ 1000000) (k : Option Bool) (l : List Rt) (hl : RsFew k l) : pureCall E.P (L E) 13 [twV t, rtR.o k l, ccV c] = some (.int .i64 (slackW c.lim (loadT32 t c) (topsR t c l))) := by
 have hpk := peak_spec t ht c hc k l hl
 have eT : l.map (topR t.p.ts c) = topsR t c l := rfl
 have eR : ∀ W : List Int, pkV ⟨c.nm, loadT32 t c, some false, W⟩ = .agg ⟨[.string c.nm, .int .i64 (loadT32 t c), intE.o (some false) W]⟩ := fun W => rfl
 rw [eT, eR] at hpk
 have hlen : (topsR t c l).length ≤ 1000 := by unfold topsR; rw [List.length_map]; exact hl.len
 have ll := fun h => Enc.o_len (O := intE) (h := h) (k := some false) (l := topsR t c l) Enc.ok_some
 have il := fun (i : Nat) (hi : i < (topsR t c l).length) => Enc.index_o (O := intE) (t := 3) (k := .i64) (x := some false) (l := topsR t c l) Enc.ok_some hi
 have st : settled depth (twV t) = true := twC_set t 6
 have sc : settled depth (ccV c) = true := rfl
 have sr : settled depth (rtR.o k l) = true := Rec.o_set
 unfold slackW
 rw [pureCall_fn F13 rfl]
 unfold ccV ccC twV twC at *
 generalize tbR.o t.p.kt t.p.ts = VT at *
 generalize pdR.o t.kb t.bs = VB at *
 generalize entR.o t.ke t.es = VE at *
 generalize rtR.o k l = VL at *
 generalize loadT32 t c = n0 at *
 generalize topsR t c l = W at *
 generalize intE.o (some false) W = VW at *
 simp -implicitDefEqProofs [r13, p13, ret1 m8, hpk, st, sc, sr, ll]
 rw [LL_for (γ := Int) W (IntKind.i64.wrap (c.lim - n0)) (fun i z => [(8, .int .i64 z), (23, .int .i64 i)]) (fun _ _ => [twO t VT VB VE, ccO c, pkF c.nm n0 VW]) (fun i rest z => (.exit 0, [(8, .int .i64 (subW z rest)), (23, undef)], [twO t VT VB VE, ccO c, pkF c.nm n0 VW])) (fun _ _ => True) (by omega) trivial]
 ·simp -implicitDefEqProofs [k13_4]
 ·simp -implicitDefEqProofs [k13_4]
 ·rfl
 ·intro nx i z hi _
  have e : subW z [] = z := rfl
  rw [e]
  unfold pkF twO ccO
  simp -implicitDefEqProofs [r13_4, k13_4, hi, trim_le]
 ·intro nx i v rest z hi hv hd hw _ ih
  have ih := ih (IntKind.i64.wrap (z - v)) trivial
  have hi2 : ((i : Int) < W.length) := by omega
  have x1 := il i hi
  rw [hv] at x1
  rw [subW_cons]
  unfold pkF twO ccO at *
  simp -implicitDefEqProofs [k13_4] at ih
  simp -implicitDefEqProofs [r13_4, k13_4, hi2, x1, iE, hw, trim_le]
  with_reducible exact ih
end Go.Proofs.YtjkemccfcabhgaaGreat.Bm
namespace Go.Proofs.YtjkemccfcabhgaaGreat.Bm
open Go Go.RowKit
open Rg (Rect Pt)
open Cw (top pre stp allS pre_len stp_len IsMax)
theorem ret3t {f : FuncId} (hm : E.mode f = 3) {C : Callee} {lo : Nat} {h : Heap} {args : List Value} : retCall E C lo false f args h = (C f args h lo).map fun r => (r.1, trim h.length [r.1] r.2) := by
 unfold retCall; rw [hm]; rfl
theorem trim_new {v : Value} {h e : Heap} (hv : below 8 h.length v = false) : trim h.length [v] (h ++ e) = h ++ e := by
 unfold trim depth
 split
 ·rfl
 ·rw [if_neg (by simp [hv])]
theorem app_e0 {el : El} {h : Heap} {lo : Nat} {st : Bool} {u : Value} {m : List Int} (hel : el.size = 1) (hu : sliceCells h 1 u = some (intE.vals m, m.length)) (hm : m ≠ []) (hb : m.length * el.bytes ≤ 2 ^ 47) :
  appendT (some el) h lo st (lst true []) u = some (Enc.sl h.length m, h ++ [intE.row el.e m]) := by
 have hm0 : m.length ≠ 0 := fun e => hm (List.eq_nil_of_length_eq_zero e)
 rw [append_lst, hel, hu]
 simp only [Option.bind_some]
 rw [if_neg hm0, if_pos ⟨rfl, by simpa using hb⟩]
 unfold Enc.sl Enc.row
 simp [Enc.vals_len]
theorem cloI_spec (x : Bool) (a : Int) (l : List Int) (h2 : (a :: l).length ≤ 1000000) (h : Heap) (lo : Nat) : retCall E (L E) lo false 23 [intE.o (some x) (a :: l)] h = some (Enc.sl h.length (a :: l), h ++ [intE.row 3 (a :: l)]) := by
 have eq : aBin E.P .eql 42 (lst x (intE.vals (a :: l))) (.slice none 0 0) = some (.bool false) := by cases x <;> kernel_rfl
 have ap := fun h lo st => app_e0 (el := elI) (h := h) (lo := lo) (st := st) (u := lst x (intE.vals (a :: l))) (m := a :: l) rfl Enc.cells_tree (by simp) (by show (a :: l).length * 8 ≤ 2 ^ 47; omega)
 have lit : ∀ h, buildSliceT (some elI) false h 0 #[] = some (lst true [], h) := fun h => build_none'.trans rfl
 have e1 : intE.o (some x) (a :: l) = lst x (intE.vals (a :: l)) := rfl
 have tn := trim_new (v := Enc.sl h.length (a :: l)) (h := h) (e := [intE.row 3 (a :: l)]) (decide_eq_false (Nat.lt_irrefl _))
 rw [e1]
 generalize lst x (intE.vals (a :: l)) = V at *
 rw [ret3t m23, L_fn F23 rfl]
 simp -implicitDefEqProofs [r23, p23, eq, lit, ap, -append_lst, tn]
end Go.Proofs.YtjkemccfcabhgaaGreat.Bm
namespace Go.Proofs.YtjkemccfcabhgaaGreat.Bm
open Go Go.RowKit
open Rg (Rect Pt)
open Cw (top pre stp allS pre_len stp_len IsMax)
def runS (b : Bool) (S : List Int) : List (List Int) → Bool × List Int × Bool
 | [] => (b, S, true)
 | l :: ls => if 4096 < S.length * (l.length + 1) then (b, S, false) else runS false (stp S l) ls
theorem runS_nil (b : Bool) (S : List Int) : runS b S [] = (b, S, true) := rfl
theorem runS_cons (b : Bool) (S l : List Int) (ls : List (List Int)) : runS b S (l :: ls) = if 4096 < S.length * (l.length + 1) then (b, S, false) else runS false (stp S l) ls := rfl
structure RsTiny (k : Option Bool) (l : List Rt) : Prop where
 few : RsFew k l
 len : l.length ≤ 10
 ph : ∀ r ∈ l, r.ph.length ≤ 20
def bndW (S : List Int) (i : Nat) : Prop := ∀ x ∈ S, -((20 * (i : Int) + 1) * 2199023255552000) ≤ x ∧ x ≤ (20 * (i : Int) + 1) * 2199023255552000
structure StOk (S : List Int) (i : Nat) : Prop where
 ne : S ≠ []
 len : S.length ≤ 4096
 b : bndW S i
theorem runS_ok : ∀ (ls : List (List Int)) {b : Bool} {S : List Int}, S ≠ [] → S.length ≤ 4096 → (runS b S ls).2.1 ≠ [] ∧ (runS b S ls).2.1.length ≤ 4096
 | [], _, _, h1, h2 => ⟨h1, h2⟩
 | l :: ls, b, S, h1, h2 => by
  rw [runS_cons]
  split
  ·exact ⟨h1, h2⟩
  ·rename_i q
   exact runS_ok ls (by unfold stp; simp [h1]) (by rw [stp_len]; omega)
def bndJ (n : Int) (i j : Nat) : Prop := -((20 * (i : Int) + 1 + j) * 2199023255552000) ≤ n ∧ n ≤ (20 * (i : Int) + 1 + j) * 2199023255552000
theorem bndJ_step {z w : Int} {i j : Nat} (h : bndJ z i j) (h1 : -2199023255552000 ≤ w) (h2 : w ≤ 2199023255552000) : bndJ (z + w) i (j + 1) := by
 unfold bndJ at *
 constructor <;> omega
theorem bndJ_le {z : Int} {i j : Nat} (h : bndJ z i j) (hi : i ≤ 10) (hj : j ≤ 20) : -2199023255552000000 ≤ z ∧ z ≤ 2199023255552000000 := by
 unfold bndJ at h
 omega
theorem bndW_stp {S l : List Int} {i : Nat} (h : bndW S i) (hl : l.length ≤ 20) (h1 : ∀ x ∈ l, -2199023255552000 ≤ x) (h2 : ∀ x ∈ l, x ≤ 2199023255552000) : bndW (stp S l) (i + 1) := by
 have key : ∀ (l : List Int) (j : Nat), l.length + j ≤ 20 → (∀ x ∈ l, -2199023255552000 ≤ x) → (∀ x ∈ l, x ≤ 2199023255552000) → ∀ n, bndJ n i j → ∀ x ∈ pre n l, bndJ x i 20 := by
  intro l
  induction l with
  | nil => intro j _ _ _ n _ x hx; cases hx
  | cons a l ih =>
   intro j hj k1 k2 n hn x hx
   have hs := bndJ_step hn (k1 a List.mem_cons_self) (k2 a List.mem_cons_self)
   rw [List.length_cons] at hj
   rcases List.mem_cons.1 hx with rfl | hx
   ·unfold bndJ at *
    constructor <;> omega
   ·exact ih (j + 1) (by omega) (fun x hx => k1 x (List.mem_cons_of_mem _ hx)) (fun x hx => k2 x (List.mem_cons_of_mem _ hx)) _ hs x hx
 intro x hx
 unfold stp at hx
 rcases List.mem_append.1 hx with hx | hx
 ·have := h x hx
  constructor <;> omega
 ·obtain ⟨n, hn, hx⟩ := List.mem_flatMap.1 hx
  have hb := h n hn
  have := key l 0 (by omega) h1 h2 n (by unfold bndJ; constructor <;> omega) x hx
  unfold bndJ at this
  constructor <;> omega
set_option maxHeartbeats 4000000 in
theorem worst_spec (t : Tw) (ht : TwFew t) (c : Cc) (hc : c.cs.length ≤ 1000000) (k : Option Bool) (l : List Rt) (hl : RsTiny k l) : pureCall E.P (L E) 6 [twV t, rtR.o k l, ccV c] =
  some (match (runS true [loadT32 t c] (l.map (loadsR t.p.ts c))).2 with | (S, true) => .tuple ⟨[.int .i64 (maxF (S.headD 0) S.tail), .int .i64 0]⟩ | (_, false) => .tuple ⟨[.int .i64 0, .int .i64 6]⟩) := by
 have hload := loadT_spec t ht c hc
 have htr := fun h => tw_reify t h
 have hls := loads_spec t.p ht.p c hc
 have hlk := hl.few.k
 have ll := fun h => Rec.o_len (R := rtR) (h := h) hlk
 have il := fun (i : Nat) (hi : i < l.length) => Rec.o_index (R := rtR) (s := 7) (t := 60) (kk := .i64) rfl hlk hi
 have sp := pn_settled t.p
 have sc : settled depth (lst c.x (spanR.vals c.cs)) = true := rfl
 have scc : settled depth (ccV c) = true := rfl
 have b1 : ∀ d n, below (d + 1) n (tbR.o t.p.kt t.p.ts) = true := fun d n => Rec.o_bel
 have b2 : ∀ d n, below (d + 1) n (rtR.o k l) = true := fun d n => Rec.o_bel
 have b3 : ∀ d n, below (d + 1) n (pdR.o t.kb t.bs) = true := fun d n => Rec.o_bel
 have b4 : ∀ d n, below (d + 1) n (entR.o t.ke t.es) = true := fun d n => Rec.o_bel
 have ob : ∀ d n o, below (d + 1) n (opV o) = true := fun d n o => op_bel
 have hlen := hl.len
 have hlb := loadT_in c ht.lb ht.le
 rw [pureCall_fn F6 rfl]
 unfold ccV ccC twV twC pnV pnC at *
 generalize tbR.o t.p.kt t.p.ts = VT at *
 generalize pdR.o t.kb t.bs = VB at *
 generalize entR.o t.ke t.es = VE at *
 generalize rtR.o k l = VL at *
 generalize loadT32 t c = n0 at *
 have lt0 := fun h => lit_int h n0
 simp -implicitDefEqProofs [r6, p6, ret0 m10, hload, htr, lt0, ll]
 have es : lst true (intE.vals [n0]) = intE.o (some true) [n0] := rfl
 rw [es]
 rw [LL_for (γ := Bool × List Int) l (true, [n0]) (fun i a => [(8, intE.o (some a.1) a.2), (23, .int .i64 i)]) (fun _ _ => [twO t VT VB VE, ccO c]) (fun i rest a => match (runS a.1 a.2 (rest.map (loadsR t.p.ts c))) with | (b, S, true) => (.exit 0, [(8, intE.o (some b) S), (23, undef)], [twO t VT VB VE, ccO c]) | (b, S, false) => (.ret, [(6, .int .i64 0), (7, .int .i64 6), (8, intE.o (some b) S), (23, undef)], [twO t VT VB VE, ccO c])) (fun i a => StOk a.2 i) (by omega) ⟨by simp, by simp, fun x hx => by simp at hx; subst hx; omega⟩]
 ·obtain ⟨r1, r2⟩ := runS_ok (l.map (loadsR t.p.ts c)) (b := true) (S := [n0]) (by simp) (by simp)
  dsimp only
  generalize runS true [n0] (l.map (loadsR t.p.ts c)) = R at *
  obtain ⟨b, S, ok⟩ := R
  simp only at r1 r2
  obtain ⟨s0, S', rfl⟩ : ∃ s0 S', S = s0 :: S' := by
   cases S with
   | nil => exact absurd rfl r1
   | cons a S => exact ⟨a, S, rfl⟩
  rw [List.length_cons] at r2
  have mx := max_spec (some b) s0 S' Enc.ok_some (by omega)
  have rI : ∀ h, reify E.P 8 h (intE.o (some b) (s0 :: S')) = some (intE.o (some b) (s0 :: S')) := fun h => Enc.o_reify
  cases ok
  ·simp -implicitDefEqProofs [k6_3]
   done
  ·simp -implicitDefEqProofs [k6_3, ret0 m24, mx, rI]
   done
 ·simp -implicitDefEqProofs [k6_3]
  done
 ·rfl
 ·intro nx i a hi _
  show _ = fin _ (.exit 0, [(8, intE.o (some a.1) a.2), (23, undef)], [twO t VT VB VE, ccO c])
  unfold twO ccO
  simp -implicitDefEqProofs [r6_3, k6_3, hi, trim_le]
  done
 ·intro nx i v rest a hi hv hd hw ha ih
  obtain ⟨b, S⟩ := a
  obtain ⟨s0, S', rfl⟩ : ∃ s0 S', S = s0 :: S' := by
   cases S with
   | nil => exact absurd rfl ha.ne
   | cons a S => exact ⟨a, S, rfl⟩
  have hi2 : ((i : Int) < l.length) := by omega
  have x1 := il i hi
  have hm : v ∈ l := by rw [← hv]; exact List.getElem_mem hi
  have hs := hls v (hl.few.r v hm)
  have hsm := loadsR_small t.p.ts c (hl.few.r v hm)
  have hl20 : (loadsR t.p.ts c v).length ≤ 20 := by
   unfold loadsR leftR
   have := hl.ph v hm
   rw [List.length_map]
   split
   ·rw [List.length_drop]; omega
   ·simp
  have hvs := rt_settled v
  rw [hv] at x1
  rw [rt_val] at x1 hs hvs
  rw [List.map_cons, runS_cons]
  have eI : lst false (intE.vals (loadsR t.p.ts c v)) = intE.o (some false) (loadsR t.p.ts c v) := rfl
  rw [eI] at hs
  generalize loadsR t.p.ts c v = lv at *
  have lnv := fun h => Enc.o_len (O := intE) (h := h) (k := some false) (l := lv) Enc.ok_some
  have lns := fun h => Enc.o_len (O := intE) (h := h) (k := some b) (l := s0 :: S') Enc.ok_some
  have clo := cloI_spec b s0 S' (by have := ha.len; simp only at this; omega)
  have b6 : ∀ d n, below (d + 1) n (phR.o v.kp v.ph) = true := fun d n => Rec.o_bel
  generalize phR.o v.kp v.ph = V1 at *
  unfold twO ccO at *
  have n1 : ¬ (4096 : Int) ≤ (lv.length : Int) := by omega
  have w1 : IntKind.i64.wrap ((lv.length : Int) + 1) = (lv.length : Int) + 1 := wrap64 (by omega) (by omega)
  have w2 : IntKind.i64.wrap (((s0 :: S').length : Int) * ((lv.length : Int) + 1)) = (((s0 :: S').length * (lv.length + 1) : Nat) : Int) := by
   have h1 : (s0 :: S').length * (lv.length + 1) ≤ 4096 * 21 := Nat.mul_le_mul ha.len (by omega)
   rw [show ((s0 :: S').length : Int) * ((lv.length : Int) + 1) = (((s0 :: S').length * (lv.length + 1) : Nat) : Int) by rw [Int.natCast_mul]; rfl]
   exact wrap64 (by omega) (by omega)
  by_cases q : 4096 < (s0 :: S').length * (lv.length + 1)
  ·have q2 : (4096 : Int) < (((s0 :: S').length * (lv.length + 1) : Nat) : Int) := by omega
   rw [if_pos q]
   generalize (s0 :: S').length * (lv.length + 1) = m at *
   generalize (s0 :: S') = S at *
   simp -implicitDefEqProofs [r6_3, k6_3, hi2, x1, ret1 m22, hs, sp, scc, hvs, lnv, lns, n1, w1, w2, q2, trim_cut, ob, b1, b2, b3, b4, Enc.o_bel]
   done
  ·have q2 : ¬ (4096 : Int) < (((s0 :: S').length * (lv.length + 1) : Nat) : Int) := by omega
   rw [if_neg q]
   generalize hmm : (s0 :: S').length * (lv.length + 1) = m at *
   generalize hS : (s0 :: S') = S at *
   simp -implicitDefEqProofs [r6_3, k6_3, hi2, x1, ret1 m22, hs, sp, scc, hvs, lnv, lns, n1, w1, w2, q2, clo]
   have hne : S ≠ [] := by rw [← hS]; simp
   have hSl : S.length ≤ 4096 := ha.len
   have ix := fun (j : Nat) (hj : j < S.length) => Enc.index_o (O := intE) (t := 3) (k := .i64) (x := some b) (l := S) Enc.ok_some hj
   have iv := fun (j : Nat) (hj : j < lv.length) => Enc.index_o (O := intE) (t := 3) (k := .i64) (x := some false) (l := lv) Enc.ok_some hj
   rw [LL_for (γ := List Int) S S (fun i acc => [(12, Enc.sl 3 acc), (48, .int .i64 i)]) (fun _ acc => [twO t VT VB VE, ccO c, rtO v V1, intE.row 3 acc]) (fun i rest acc => (.exit 2, [(12, Enc.sl 3 (acc ++ rest.flatMap fun n => pre n lv)), (48, undef)], [twO t VT VB VE, ccO c, rtO v V1, intE.row 3 (acc ++ rest.flatMap fun n => pre n lv)])) (fun i acc => acc.length ≤ 4096 + 20 * i) (by omega) (by omega)]
   ·have eW : (S ++ S.flatMap fun n => pre n lv) = stp S lv := rfl
    rw [eW]
    have hSt : StOk (stp S lv) (i + 1) := ⟨by unfold stp; simp [hne], by rw [stp_len, hmm]; omega, bndW_stp ha.b hl20 hsm.lo hsm.hi⟩
    have ih := ih (false, stp S lv) hSt
    have hWn : stp S lv ≠ [] := hSt.ne
    have eo : intE.o (some false) (stp S lv) = lst false (intE.vals (stp S lv)) := rfl
    dsimp only at ih
    rw [eo] at ih
    generalize stp S lv = W at *
    have fz := fun lo hlo => Enc.frz_sl (O := intE) (P := E.P) (h := [twO t VT VB VE, ccO c, rtO v V1, intE.row 3 W]) (b := 3) (lo := lo) (t := 3) (l := W) rfl sI aI hlo
    unfold twO ccO rtO at *
    simp -implicitDefEqProofs [k6_3] at ih
    simp -implicitDefEqProofs [k6_10, prep_frz, fz, hWn, hw, trim_cut, ob, b1, b2, b3, b4, Enc.o_bel]
    with_reducible exact ih
   ·simp -implicitDefEqProofs [k6_10]
   ·rfl
   ·intro nx i acc hi _
    rw [List.flatMap_nil, List.append_nil]
    unfold twO ccO rtO
    simp -implicitDefEqProofs [r6_10, k6_10, hi, trim_le]
   ·intro nx j n rest2 acc hj hn hd2 hw2 hacc ih2
    have hj2 : ((j : Int) < S.length) := by omega
    have y1 := ix j hj
    rw [hn] at y1
    unfold twO ccO rtO at *
    simp -implicitDefEqProofs [r6_10, k6_10, hj2, y1, iE, lnv]
    have hnb : bndJ n i 0 := by
     have := ha.b n (by show n ∈ S; rw [← hn]; exact List.getElem_mem hj)
     unfold bndJ
     constructor <;> omega
    rw [LL_for (γ := Int × List Int) lv (n, acc) (fun q a => [(12, Enc.sl 3 a.2), (14, .int .i64 a.1), (54, .int .i64 q)]) (fun _ a => [twO t VT VB VE, ccO c, rtO v V1, intE.row 3 a.2]) (fun q rest a => (.exit 4, [(12, Enc.sl 3 (a.2 ++ pre a.1 rest)), (14, undef), (54, undef)], [twO t VT VB VE, ccO c, rtO v V1, intE.row 3 (a.2 ++ pre a.1 rest)])) (fun q a => a.2.length = acc.length + q ∧ bndJ a.1 i q) (by omega) ⟨rfl, hnb⟩]
    ·have ih2 := ih2 (acc ++ pre n lv) (by rw [List.length_append, Cw.pre_len]; omega)
     try rw [List.flatMap_cons]
     rw [← List.append_assoc]
     dsimp only
     generalize acc ++ pre n lv = acc' at *
     unfold twO ccO rtO at *
     simp -implicitDefEqProofs [k6_10, -List.append_assoc] at ih2
     simp -implicitDefEqProofs [k6_13, hw2, trim_le, -List.append_assoc]
     with_reducible exact ih2
    ·simp -implicitDefEqProofs [k6_13]
    ·rfl
    ·intro nx q a hq _
     obtain ⟨z, acc2⟩ := a
     show _ = fin _ (.exit 4, [(12, Enc.sl 3 (acc2 ++ [])), (14, undef), (54, undef)], [twO t VT VB VE, ccO c, rtO v V1, intE.row 3 (acc2 ++ [])])
     rw [List.append_nil]
     unfold twO ccO rtO at *
     simp -implicitDefEqProofs [r6_13, k6_13, hq, trim_le]
     done
    ·intro nx q w rest3 a hq hwq hd3 hw3 ha3 ih3
     obtain ⟨z, acc2⟩ := a
     obtain ⟨g1, g2⟩ := ha3
     simp only at g1 g2
     have hq2 : ((q : Int) < lv.length) := by omega
     have z1 := iv q hq
     rw [hwq] at z1
     have hwm : w ∈ lv := by rw [← hwq]; exact List.getElem_mem hq
     have k1 := hsm.lo w hwm
     have k2 := hsm.hi w hwm
     have k3 := bndJ_le g2 (by omega) (by omega)
     have ew : IntKind.i64.wrap (z + w) = z + w := wrap64 (by omega) (by omega)
     have lt := fun h => lit_int h (z + w)
     have ap := fun h (hob : h[3]? = some (intE.row 3 acc2)) => Enc.app (O := intE) (el := elI) (h := h) (b := 3) (lo := 0) (l := acc2) (m := [z + w]) (u := lst true (intE.vals [z + w])) rfl hob Enc.cells_tree (Nat.zero_le _) (by show (acc2.length + 1) * 8 ≤ 2 ^ 47; omega)
     have ih3 := ih3 (z + w, acc2 ++ [z + w]) ⟨by show (acc2 ++ [z + w]).length = _; rw [List.length_append, g1]; simp; omega, bndJ_step g2 k1 k2⟩
     show _ = fin _ (.exit 4, [(12, Enc.sl 3 (acc2 ++ pre z (w :: rest3))), (14, undef), (54, undef)], [twO t VT VB VE, ccO c, rtO v V1, intE.row 3 (acc2 ++ pre z (w :: rest3))])
     rw [pre_cons, show acc2 ++ (z + w) :: pre (z + w) rest3 = (acc2 ++ [z + w]) ++ pre (z + w) rest3 by simp]
     unfold twO ccO rtO at *
     simp -implicitDefEqProofs [k6_13, -List.append_assoc] at ih3
     simp -implicitDefEqProofs [r6_13, k6_13, hq2, z1, iE, ew, lt, ap, hw3, trim_le, -List.append_assoc]
     with_reducible exact ih3
end Go.Proofs.YtjkemccfcabhgaaGreat.Bm
namespace Go.Proofs.YtjkemccfcabhgaaGreat.Bm
open Go Go.RowKit
open Rg (Rect Pt)
def fewT (t : Tb) : Bool := decide (t.rs.length ≤ 10)
def fewP (p : Ph) : Bool := decide (p.vs.length ≤ 6) && decide (p.gs.length ≤ 6)
def fewR (r : Rt) : Bool := (r.ph.take 10).all fewP && decide (r.ph.length ≤ 9)
def fewB (t : Tw) (l : List Rt) : Bool := t.p.ts.all fewT && ((l.take 7).all fewR && (decide (t.p.ts.length ≤ 5) && (decide (t.es.length ≤ 20) && (decide (t.bs.length ≤ 20) && decide (l.length ≤ 6)))))
structure Args (t : Tw) (k : Option Bool) (l : List Rt) : Prop where
 tw : TwOk t
 len : t.p.ts.length ≤ 9223372036854775807
 kk : Rec.Ok k l
 rr : ∀ r ∈ l, RtOk r
theorem all_cons2 {α : Type} (f : α → Bool) (a : α) (l : List α) : (a :: l).all f = (f a && l.all f) := rfl
set_option maxHeartbeats 4000000 in
theorem few_spec32 (t : Tw) (k : Option Bool) (l : List Rt) (h : Args t k l) : pureCall E.P (L E) 5 [twV t, rtR.o k l] = some (.bool (fewB t l)) := by
 have lt := fun h' => Rec.o_len (R := tbR) (h := h') h.tw.kt
 have it := fun (i : Nat) (hi : i < t.p.ts.length) => Rec.o_index (R := tbR) (s := 3) (t := 80) (kk := .i64) rfl h.tw.kt hi
 have lr := fun h' => Rec.o_len (R := rtR) (h := h') h.kk
 have ir := fun (i : Nat) (hi : i < l.length) => Rec.o_index (R := rtR) (s := 7) (t := 60) (kk := .i64) rfl h.kk hi
 have lb := fun h' => Rec.o_len (R := pdR) (h := h') h.tw.kb
 have le := fun h' => Rec.o_len (R := entR) (h := h') h.tw.ke
 have hkr := h.tw.kr
 have hlen := h.len
 have hrs := h.rr
 rw [pureCall_fn F5 rfl]
 unfold twV twC
 generalize tbR.o t.p.kt t.p.ts = VT at *
 generalize pdR.o t.kb t.bs = VB at *
 generalize entR.o t.ke t.es = VE at *
 generalize rtR.o k l = VL at *
 simp -implicitDefEqProofs [r5, p5]
 unfold fewB
 rw [LL_for (γ := Unit) t.p.ts () (fun i _ => [(5, .int .i64 i)]) (fun _ _ => [twO t VT VB VE]) (fun i rest _ => if rest.all fewT = true then (.exit 0, [(5, undef)], [twO t VT VB VE]) else (.ret, [(4, .bool false), (5, undef)], [twO t VT VB VE])) (fun _ _ => True) hlen trivial]
 ·cases q : t.p.ts.all fewT
  ·simp -implicitDefEqProofs [k5_2, -List.all_eq_true, -List.all_eq_false]
  ·rw [if_pos rfl, Bool.true_and]
   simp -implicitDefEqProofs [k5_2, -List.all_eq_true, -List.all_eq_false]
   rw [LL_for (γ := Unit) (l.take 7) () (fun i _ => [(6, .int .i64 i)]) (fun _ _ => [twO t VT VB VE]) (fun i rest _ => if rest.all fewR = true then (.exit 2, [(6, undef)], [twO t VT VB VE]) else (.ret, [(4, .bool false), (6, undef)], [twO t VT VB VE])) (fun _ _ => True) (by rw [List.length_take]; omega) trivial]
   ·cases q2 : (l.take 7).all fewR
    ·simp -implicitDefEqProofs [k5_7, -List.all_eq_true, -List.all_eq_false]
    ·rw [if_pos rfl, Bool.true_and]
     unfold twO
     by_cases c1 : t.p.ts.length ≤ 5
     case neg =>
      have c1' : ¬ ((t.p.ts.length : Nat) : Int) ≤ 5 := by omega
      simp -implicitDefEqProofs [k5_7, lt, c1, c1']
     have c1' : ((t.p.ts.length : Nat) : Int) ≤ 5 := by omega
     by_cases c2 : t.es.length ≤ 20
     case neg =>
      have c2' : ¬ ((t.es.length : Nat) : Int) ≤ 20 := by omega
      simp -implicitDefEqProofs [k5_7, lt, le, c1, c1', c2, c2']
     have c2' : ((t.es.length : Nat) : Int) ≤ 20 := by omega
     by_cases c3 : t.bs.length ≤ 20
     case neg =>
      have c3' : ¬ ((t.bs.length : Nat) : Int) ≤ 20 := by omega
      simp -implicitDefEqProofs [k5_7, lt, le, lb, c1, c1', c2, c2', c3, c3']
     have c3' : ((t.bs.length : Nat) : Int) ≤ 20 := by omega
     simp -implicitDefEqProofs [k5_7, lt, le, lb, lr, c1, c1', c2, c2', c3, c3']
     omega
   ·simp -implicitDefEqProofs [k5_7]
   ·rfl
   ·intro nx i c hi _
    rw [List.length_take] at hi
    rw [show ([] : List Rt).all fewR = true from rfl, if_pos rfl]
    unfold twO
    by_cases c1 : (i : Int) < (l.length : Int)
    ·have c2 : ¬ (i : Int) ≤ 6 := by omega
     simp -implicitDefEqProofs [r5_7, k5_7, lr, c1, c2, trim_le]
    ·simp -implicitDefEqProofs [r5_7, k5_7, lr, c1, trim_le]
   ·intro nx i v rest c hi hv hd hw _ ih
    have ih := ih () trivial
    have hi' := hi
    rw [List.length_take] at hi'
    have hi2 : ((i : Int) < l.length) := by omega
    have hi6 : (i : Int) ≤ 6 := by omega
    have x1 := ir i (by omega)
    rw [List.getElem_take] at hv
    rw [hv, rt_val] at x1
    have hm : v ∈ l := by rw [← hv]; exact List.getElem_mem _
    have lp := fun h' => Rec.o_len (R := phR) (h := h') (hrs v hm).kp
    have ip := fun (i : Nat) (hi : i < v.ph.length) => Rec.o_index (R := phR) (s := 2) (t := 64) (kk := .i64) rfl (hrs v hm).kp hi
    have hpo := (hrs v hm).ph
    rw [all_cons2]
    have f1 : ∀ sz, fitsTT ⟨some false, sz⟩ (phR.o v.kp v.ph) = true := fun _ => Rec.o_fits
    generalize phR.o v.kp v.ph = V1 at *
    unfold twO at *
    simp -implicitDefEqProofs [k5_7, -List.all_eq_true, -List.all_eq_false] at ih
    simp -implicitDefEqProofs [r5_7, k5_7, lr, hi2, hi6, x1, f1, -List.all_eq_true, -List.all_eq_false]
    have ef : fewR v = ((v.ph.take 10).all fewP && decide (v.ph.length ≤ 9)) := rfl
    rw [LL_for (γ := Unit) (v.ph.take 10) () (fun j _ => [(8, .int .i64 j)]) (fun _ _ => [twO t VT VB VE]) (fun j rest _ => if rest.all fewP = true then (.exit 4, [(8, undef)], [twO t VT VB VE]) else (.ret, [(4, .bool false), (8, undef)], [twO t VT VB VE])) (fun _ _ => True) (by rw [List.length_take]; omega) trivial]
    ·cases q3 : (v.ph.take 10).all fewP
     ·rw [q3, Bool.false_and] at ef
      unfold twO
      simp -implicitDefEqProofs [k5_11, ef, trim_le, -List.all_eq_true, -List.all_eq_false]
      done
     ·rw [q3, Bool.true_and] at ef
      rw [if_pos rfl]
      unfold twO
      by_cases d1 : v.ph.length ≤ 9
      ·have d2 : ¬ (9 : Int) < (v.ph.length : Int) := by omega
       rw [decide_eq_true d1] at ef
       simp -implicitDefEqProofs [k5_11, ef, lp, d2, hw, trim_le, -List.all_eq_true, -List.all_eq_false]
       with_reducible exact ih
      ·have d2 : (9 : Int) < (v.ph.length : Int) := by omega
       rw [decide_eq_false d1] at ef
       simp -implicitDefEqProofs [k5_11, ef, lp, d2, trim_le, -List.all_eq_true, -List.all_eq_false]
       done
    ·simp -implicitDefEqProofs [k5_11]
    ·rfl
    ·intro nx j c hj _
     rw [List.length_take] at hj
     rw [show ([] : List Ph).all fewP = true from rfl, if_pos rfl]
     unfold twO
     by_cases c1 : (j : Int) < (v.ph.length : Int)
     ·have c2 : ¬ (j : Int) ≤ 9 := by omega
      simp -implicitDefEqProofs [r5_11, k5_11, lp, c1, c2, trim_le]
     ·simp -implicitDefEqProofs [r5_11, k5_11, lp, c1, trim_le]
    ·intro nx j w rest c hj hwj hd3 hw3 _ ih3
     have ih3 := ih3 () trivial
     have hj' := hj
     rw [List.length_take] at hj'
     have hj2 : ((j : Int) < v.ph.length) := by omega
     have hj9 : (j : Int) ≤ 9 := by omega
     have z1 := ip j (by omega)
     rw [List.getElem_take] at hwj
     rw [hwj, ph_val] at z1
     have hwm : w ∈ v.ph := by rw [← hwj]; exact List.getElem_mem _
     have lv := fun h' => Rec.o_len (R := volR) (h := h') (hpo w hwm).kv
     have lg := fun h' => Rec.o_len (R := entR) (h := h') (hpo w hwm).kg
     rw [all_cons2]
     unfold twO fewP at *
     have f2 : ∀ sz, fitsTT ⟨some false, sz⟩ (volR.o w.kv w.vs) = true := fun _ => Rec.o_fits
     have f3 : ∀ sz, fitsTT ⟨some false, sz⟩ (entR.o w.kg w.gs) = true := fun _ => Rec.o_fits
     generalize volR.o w.kv w.vs = V2 at *
     generalize entR.o w.kg w.gs = V3 at *
     simp -implicitDefEqProofs [k5_11, -List.all_eq_true, -List.all_eq_false] at ih3
     by_cases d1 : w.vs.length ≤ 6
     case neg =>
      have d1' : (6 : Int) < (w.vs.length : Int) := by omega
      rw [decide_eq_false d1, Bool.false_and, Bool.false_and]
      simp -implicitDefEqProofs [r5_11, k5_11, lp, hj2, hj9, z1, f2, lv, d1', trim_le]
      done
     have d1' : ¬ (6 : Int) < (w.vs.length : Int) := by omega
     by_cases d2 : w.gs.length ≤ 6
     case neg =>
      have d2' : (6 : Int) < (w.gs.length : Int) := by omega
      rw [decide_eq_true d1, decide_eq_false d2, Bool.true_and, Bool.false_and]
      simp -implicitDefEqProofs [r5_11, k5_11, lp, hj2, hj9, z1, f2, f3, lv, lg, d1', d2', trim_le]
      done
     have d2' : ¬ (6 : Int) < (w.gs.length : Int) := by omega
     rw [decide_eq_true d1, decide_eq_true d2, Bool.true_and, Bool.true_and]
     simp -implicitDefEqProofs [r5_11, k5_11, lp, hj2, hj9, z1, f2, f3, lv, lg, d1', d2', hw3, trim_le, -List.all_eq_true, -List.all_eq_false]
     with_reducible exact ih3
 ·simp -implicitDefEqProofs [k5_2]
 ·rfl
 ·intro nx i c hi _
  rw [show ([] : List Tb).all fewT = true from rfl, if_pos rfl]
  unfold twO
  simp -implicitDefEqProofs [r5_2, k5_2, hi, lt, trim_le]
 ·intro nx i v rest c hi hv hd hw _ ih
  have ih := ih () trivial
  have hi2 : ((i : Int) < t.p.ts.length) := by omega
  have x1 := it i hi
  rw [hv, tb_val] at x1
  have hm : v ∈ t.p.ts := by rw [← hv]; exact List.getElem_mem hi
  have lrs := fun h' => Rec.o_len (R := entR) (h := h') (hkr v hm)
  rw [all_cons2]
  have f1 : ∀ sz, fitsTT ⟨some false, sz⟩ (entR.o v.kr v.rs) = true := fun _ => Rec.o_fits
  generalize entR.o v.kr v.rs = V1 at *
  unfold twO fewT at *
  simp -implicitDefEqProofs [k5_2, -List.all_eq_true, -List.all_eq_false] at ih
  by_cases q : v.rs.length ≤ 10
  ·have q2 : ¬ (10 : Int) < (v.rs.length : Int) := by omega
   rw [decide_eq_true q, Bool.true_and]
   simp -implicitDefEqProofs [r5_2, k5_2, hi2, x1, f1, lt, lrs, q2, hw, trim_le, -List.all_eq_true, -List.all_eq_false]
   with_reducible exact ih
  ·have q2 : (10 : Int) < (v.rs.length : Int) := by omega
   rw [decide_eq_false q, Bool.false_and]
   simp -implicitDefEqProofs [r5_2, k5_2, hi2, x1, f1, lt, lrs, q2, trim_le]
end Go.Proofs.YtjkemccfcabhgaaGreat.Bm
namespace Go.Proofs.YtjkemccfcabhgaaGreat.Bm
open Go Go.RowKit
open Rg (Rect Pt)
theorem rop_loadT {C : Callee} {lo : Nat} {k : TI} {x : Operand} {ρ : Operand → Value} {h : Heap} : ropR E C lo true (.load k x) ρ h = if isCp (ρ x) then (loadT k h (ρ x)).map (·, h) else none := by
 by_cases hc : isCp (ρ x) = true
 ·rw [if_pos hc]
  show (if (true && !isCp (ρ x)) = true then none else _) = _
  rw [hc]; rfl
 ·rw [if_neg hc]
  show (if (true && !isCp (ρ x)) = true then none else _) = _
  rw [Bool.eq_false_iff.2 hc]; rfl
theorem isCp_cptr {v : Value} : isCp (cptr v) = true := rfl
end Go.Proofs.YtjkemccfcabhgaaGreat.Bm
namespace Go.Proofs.YtjkemccfcabhgaaGreat.Bm
open Go Go.RowKit
open Rg (Rect Pt)
end Go.Proofs.YtjkemccfcabhgaaGreat.Bm
