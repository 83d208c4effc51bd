/-
 Chapter 26: Reach, Tighten and Check of the reference, walked. Conditions: few rooms, of few rectangles; trees of at most a million nodes.
-/
import Derived.Test.YtcnafncmfiogcaaQJ26
import Derived.Test.YtcnafncmfiogcaaQJ25
import Derived.Test.YtcnafncmfiogcaaQJ21
namespace Go.Proofs.Ytcnafncmfiogcaa.Bm
open Go Go.RowKit
open Rg (Rect areaL)
open Cp (Q Nd Br prQ validQ run root reach chk)
theorem neq_br (x y : Br) : aBin E.P .neq 41 (.agg ⟨[.int .i64 x.kids, .int .i64 x.bound]⟩) (.agg ⟨[.int .i64 y.kids, .int .i64 y.bound]⟩) = some (.bool (!decide (x = y))) := by
 rw [neqB]
 obtain ⟨a, b⟩ := x
 obtain ⟨c, d⟩ := y
 rw [show (a == c) = decide (a = c) from rfl, show (b == d) = decide (b = d) from rfl]
 by_cases h1 : a = c <;> by_cases h2 : b = d <;> simp [allOf, h1, h2]
theorem same_spec (k m : Option Bool) (l r : List Br) (hk : Rec.Ok k l) (hm : Rec.Ok m r) (hl : l.length ≤ 1000000) : pureCall E.P (L E) 29 [brR.o k l, brR.o m r] = some (.bool (decide (l = r))) := by
 have ll := fun h => Rec.o_len (R := brR) (h := h) hk
 have lr := fun h => Rec.o_len (R := brR) (h := h) hm
 have il := brV_index k l hk
 have ir := brV_index m r hm
 generalize brR.o k l = VL at *
 generalize brR.o m r = VR at *
 rw [pureCall_fn F29 rfl]
 by_cases hlen : l.length = r.length
 ·simp -implicitDefEqProofs [r29, p29, ll, lr, hlen]
  rw [LL_for (γ := Unit) l () (fun i _ => [(5, .int .i64 i)]) (fun _ _ => []) (fun i rest _ => if eqG rest (r.drop i) then (.exit 0, [(5, undef)], []) else (.ret, [(4, .bool false), (5, undef)], [])) (fun _ _ => True) (by omega) trivial]
  ·rw [List.drop_zero]
   by_cases q : l = r
   ·subst q
    have h : eqG l l = true := decide_eq_true rfl
    simp -implicitDefEqProofs [k29_4, h]
   ·have h : eqG l r = false := decide_eq_false q
    simp -implicitDefEqProofs [k29_4, h, q]
  ·simp -implicitDefEqProofs [k29_4]
  ·rfl
  ·intro nx i c hi _
   have hd0 : eqG [] (r.drop i) = true := by rw [List.drop_eq_nil_of_le (by omega)]; rfl
   rw [hd0]
   simp -implicitDefEqProofs [r29_4, k29_4, ll, hi, hlen, trim_le]
  ·intro nx i v rest c hi hv hd hw _ ih
   have ih := ih () trivial
   have hi' : i < r.length := by omega
   have hi2 : ((i : Int) < r.length) := by omega
   have x1 := il i hi
   have x2 := ir i hi'
   rw [hv] at x1
   have hrd : r.drop i = r[i] :: r.drop (i + 1) := List.drop_eq_getElem_cons hi'
   rw [hrd, eqG_cons]
   simp -implicitDefEqProofs [k29_4] at ih
   have nq := neq_br v r[i]
   by_cases he : v = r[i]
   ·rw [decide_eq_true he] at nq
    simp -implicitDefEqProofs [r29_4, k29_4, ll, hi', hlen, x1, x2, nq, hw, decide_eq_true he, trim_le]
    exact ih
   ·rw [decide_eq_false he] at nq
    simp -implicitDefEqProofs [r29_4, k29_4, ll, hi', hlen, x1, x2, nq, decide_eq_false he, trim_le]
 ·have : ¬ l = r := fun e => hlen (by rw [e])
  have hlen' : ¬ ((l.length : Int) = r.length) := by omega
  simp -implicitDefEqProofs [r29, p29, ll, lr, hlen', this]
def duo : Rooms := [rm 4, rm 2]
def V2 : Value := lst true [lst true [.agg ⟨[.int .i64 0, .int .i64 0, .int .i64 4, .int .i64 1]⟩], lst true [.agg ⟨[.int .i64 0, .int .i64 0, .int .i64 2, .int .i64 1]⟩]]
theorem duo_ok : RoomsOk duo := ⟨fun r hr => by
  simp only [duo, rm, List.mem_cons, List.not_mem_nil, or_false] at hr
  rcases hr with rfl | rfl <;> exact Rec.ok_some, fun r hr => by
  simp only [duo, rm, List.mem_cons, List.not_mem_nil, or_false] at hr
  rcases hr with rfl | rfl <;> decide, by decide⟩
def p26a : Pb := ⟨1, none, [], 100, none, []⟩
def p26b : Pb := ⟨-1, none, [], 0, none, []⟩
theorem p26a_ok : PbOk p26a := ⟨fun _ => rfl, fun _ => rfl, by decide, by decide, by decide, by decide⟩
theorem p26b_ok : PbOk p26b := ⟨fun _ => rfl, fun _ => rfl, by decide, by decide, by decide, by decide⟩
theorem duo_a : okA duo p26a = some [4, 2] := by kernel_rfl
theorem duo_b : okA duo p26b = none := by kernel_rfl
abbrev BV (a b : Int) : Value := .agg ⟨[.int .i64 a, .int .i64 b]⟩
set_option maxRecDepth 100000 in
theorem roomN_spec (n : Int) : pureCall E.P (L E) 51 [.int .i64 n] = some (lst true [.agg ⟨[.int .i64 0, .int .i64 0, .int .i64 n, .int .i64 1]⟩]) := pureCall_le (evF_L 20) (by kernel_rfl)
theorem chk2 (c : List Int) (v : Int) (T : List Br) (x y : Bool) (n : Nat) (h : chk (prQ p26a.q) [4, 2] c v T = n) (hc : c.length ≤ 1000000) (hT : T.length ≤ 1000000) :
  pureCall E.P (L E) 30 [V2, .agg ⟨[.int .i64 1, .slice none 0 0, .int .i64 100, .slice none 0 0]⟩, lst x (intE.vals c), .int .i64 v, lst y (brR.vals T)] = some (.int .i64 (codeC n)) := by
 have := bCheck_spec true duo duo_ok p26a p26a_ok (some x) c Enc.ok_some hc v (some y) T Rec.ok_some hT
 rw [duo_a] at this
 rw [← h]
 exact this
theorem lit_b (h : Heap) (a b : Int) : buildSliceT (some ⟨41, 2, 16, .agg ⟨[.int .i64 0, .int .i64 0]⟩, ⟨some true, some 2⟩⟩) false h 1 #[(0, BV a b)] = some (lst true [BV a b], h) :=
 (build_lit' (n := 1) (l := [(0, BV a b)]) rfl rfl (by decide) (by decide) (by decide)).trans rfl
theorem lit_b3 (h : Heap) (a b c d e f : Int) : buildSliceT (some ⟨41, 2, 16, .agg ⟨[.int .i64 0, .int .i64 0]⟩, ⟨some true, some 2⟩⟩) false h 3 #[(0, BV a b), (1, BV c d), (2, BV e f)] = some (lst true [BV a b, BV c d, BV e f], h) :=
 (build_lit' (n := 3) (l := [(0, BV a b), (1, BV c d), (2, BV e f)]) rfl rfl (by decide) (by decide) (by decide)).trans rfl
theorem br_b1 (b : Int) : buildT (.fs ⟨[.int .i64 0, .int .i64 0]⟩ ⟨[(0, 1), (1, 1)]⟩) #[(1, .int .i64 b)] = some (BV 0 b) := rfl
theorem br_b2 (a b : Int) : buildT (.fs ⟨[.int .i64 0, .int .i64 0]⟩ ⟨[(0, 1), (1, 1)]⟩) #[(0, .int .i64 a), (1, .int .i64 b)] = some (BV a b) := rfl
theorem pb_b1 (a : Int) : buildT (.fs ⟨[.int .i64 0, .slice none 0 0, .int .i64 0, .slice none 0 0]⟩ ⟨[(0, 1), (1, 1), (2, 1), (3, 1)]⟩) #[(0, .int .i64 a)] = some (.agg ⟨[.int .i64 a, .slice none 0 0, .int .i64 0, .slice none 0 0]⟩) := rfl
theorem lit_rr (h : Heap) : buildSliceT (some elRs) false h 2 #[(0, lst true [.agg ⟨[.int .i64 0, .int .i64 0, .int .i64 4, .int .i64 1]⟩]), (1, lst true [.agg ⟨[.int .i64 0, .int .i64 0, .int .i64 2, .int .i64 1]⟩])] = some (V2, h) :=
 (build_lit' (n := 2) (l := [(0, lst true [.agg ⟨[.int .i64 0, .int .i64 0, .int .i64 4, .int .i64 1]⟩]), (1, lst true [.agg ⟨[.int .i64 0, .int .i64 0, .int .i64 2, .int .i64 1]⟩])]) rfl rfl (by decide) (by decide) (by decide)).trans rfl
theorem lit_i1 (h : Heap) (a : Int) : buildSliceT (some elInt) false h 1 #[(0, .int .i64 a)] = some (lst true [.int .i64 a], h) := lit_int h a
set_option maxHeartbeats 2000000 in
theorem small26_spec : pureCall E.P (L E) 24 [] = some (.bool true) := by
 have r4 := roomN_spec 4
 have r2 := roomN_spec 2
 have c1 : pureCall E.P (L E) 30 [V2, .agg ⟨[.int .i64 1, .slice none 0 0, .int .i64 100, .slice none 0 0]⟩, lst true [.int .i64 0, .int .i64 0], .int .i64 6, lst true [BV 1 6, BV 1 6, BV 0 6]] = some (.int .i64 0) := chk2 [0, 0] 6 [⟨1, 6⟩, ⟨1, 6⟩, ⟨0, 6⟩] true true 0 (by kernel_rfl) (by decide) (by decide)
 have c2 : pureCall E.P (L E) 30 [V2, .agg ⟨[.int .i64 1, .slice none 0 0, .int .i64 100, .slice none 0 0]⟩, lst true [.int .i64 0, .int .i64 0], .int .i64 5, lst true [BV 1 6, BV 1 6, BV 0 6]] = some (.int .i64 18) := chk2 [0, 0] 5 [⟨1, 6⟩, ⟨1, 6⟩, ⟨0, 6⟩] true true 1 (by kernel_rfl) (by decide) (by decide)
 have c3 : pureCall E.P (L E) 30 [V2, .agg ⟨[.int .i64 1, .slice none 0 0, .int .i64 100, .slice none 0 0]⟩, lst true [.int .i64 0], .int .i64 4, lst true [BV 1 6, BV 1 6, BV 0 6]] = some (.int .i64 19) := chk2 [0] 4 [⟨1, 6⟩, ⟨1, 6⟩, ⟨0, 6⟩] true true 2 (by kernel_rfl) (by decide) (by decide)
 have c4 : pureCall E.P (L E) 30 [V2, .agg ⟨[.int .i64 1, .slice none 0 0, .int .i64 100, .slice none 0 0]⟩, lst true [.int .i64 0, .int .i64 0], .int .i64 6, lst true [BV 0 6]] = some (.int .i64 0) := chk2 [0, 0] 6 [⟨0, 6⟩] true true 0 (by kernel_rfl) (by decide) (by decide)
 have c5 : pureCall E.P (L E) 30 [V2, .agg ⟨[.int .i64 1, .slice none 0 0, .int .i64 100, .slice none 0 0]⟩, lst true [.int .i64 0, .int .i64 0], .int .i64 6, lst true [BV 0 5]] = some (.int .i64 19) := chk2 [0, 0] 6 [⟨0, 5⟩] true true 2 (by kernel_rfl) (by decide) (by decide)
 have c6 : pureCall E.P (L E) 30 [V2, .agg ⟨[.int .i64 1, .slice none 0 0, .int .i64 100, .slice none 0 0]⟩, lst true [.int .i64 0, .int .i64 0], .int .i64 6, lst true [BV 1 6, BV 0 6, BV 0 6]] = some (.int .i64 19) := chk2 [0, 0] 6 [⟨1, 6⟩, ⟨0, 6⟩, ⟨0, 6⟩] true true 2 (by kernel_rfl) (by decide) (by decide)
 have c7 : pureCall E.P (L E) 30 [V2, .agg ⟨[.int .i64 (-1), .slice none 0 0, .int .i64 0, .slice none 0 0]⟩, lst true [.int .i64 0, .int .i64 0], .int .i64 6, lst true [BV 1 6, BV 1 6, BV 0 6]] = some (.int .i64 1) := by
  have := bCheck_spec true duo duo_ok p26b p26b_ok (some true) [0, 0] Enc.ok_some (by decide) 6 (some true) [⟨1, 6⟩, ⟨1, 6⟩, ⟨0, 6⟩] Rec.ok_some (by decide)
  rw [duo_b] at this
  exact this
 have rc : pureCall E.P (L E) 25 [V2, .agg ⟨[.int .i64 1, .slice none 0 0, .int .i64 100, .slice none 0 0]⟩, lst true [.int .i64 0]] = some (.tuple ⟨[.int .i64 6, .int .i64 0]⟩) := by
  have := bReach_spec true duo duo_ok p26a p26a_ok (some true) [0] Enc.ok_some (by decide)
  rw [duo_a] at this
  have e : reachV (prQ p26a.q) [4, 2] [0] = [.int .i64 6, .int .i64 0] := by kernel_rfl
  have this : pureCall E.P (L E) 25 [V2, .agg ⟨[.int .i64 1, .slice none 0 0, .int .i64 100, .slice none 0 0]⟩, lst true [.int .i64 0]] = some (.tuple ⟨reachV (prQ p26a.q) [4, 2] [0]⟩) := this
  rw [this, e]
 have tg : pureCall E.P (L E) 27 [V2, .agg ⟨[.int .i64 1, .slice none 0 0, .int .i64 100, .slice none 0 0]⟩, lst true [BV 1 6, BV 1 6, BV 0 6]] = some (.tuple ⟨[lst false [BV 1 6, BV 1 6, BV 0 6], .int .i64 0]⟩) := by
  have := bTighten_spec true duo duo_ok p26a p26a_ok (some true) [⟨1, 6⟩, ⟨1, 6⟩, ⟨0, 6⟩] Rec.ok_some (by decide)
  rw [duo_a] at this
  have e : Cp.tight (prQ p26a.q) [4, 2] [⟨1, 6⟩, ⟨1, 6⟩, ⟨0, 6⟩] = some [⟨1, 6⟩, ⟨1, 6⟩, ⟨0, 6⟩] := by kernel_rfl
  have this : pureCall E.P (L E) 27 [V2, .agg ⟨[.int .i64 1, .slice none 0 0, .int .i64 100, .slice none 0 0]⟩, lst true [BV 1 6, BV 1 6, BV 0 6]] = some (.tuple ⟨tightenV (Cp.tight (prQ p26a.q) [4, 2] [⟨1, 6⟩, ⟨1, 6⟩, ⟨0, 6⟩])⟩) := this
  rw [this, e]; rfl
 have sm : pureCall E.P (L E) 29 [lst false [BV 1 6, BV 1 6, BV 0 6], lst true [BV 1 6, BV 1 6, BV 0 6]] = some (.bool true) := same_spec (some false) (some true) [⟨1, 6⟩, ⟨1, 6⟩, ⟨0, 6⟩] [⟨1, 6⟩, ⟨1, 6⟩, ⟨0, 6⟩] Rec.ok_some Rec.ok_some (by decide)
 have sV : settled depth V2 = true := rfl
 have sI : ∀ z, settled depth (.int .i64 z) = true := fun z => rfl
 have sL : ∀ l, settled depth (lst true l) = true := fun l => rfl
 have rV : ∀ h, reify E.P 8 h V2 = some V2 := fun h => rfl
 rw [pureCall_fn F24 rfl]
 generalize hV : V2 = V at *
 have lrr := fun h => lit_rr h
 rw [hV] at lrr
 simp -implicitDefEqProofs [r24, p24, ret1 m51, r4, r2, lrr, pb_b2, pb_b1, sg2, br_b1, br_b2, lit_b, lit_b3, lit_i2, lit_i1, ret0 m25, ret1 m27, ret0 m30, ret0 m29, sV, sI, sL, rV, c1, c2, c3, c4, c5, c6, c7, rc, tg, sm]
end Go.Proofs.Ytcnafncmfiogcaa.Bm
namespace Go.Proofs.Ytcnafncmfiogcaa.Bm
open Go Go.RowKit
open Rg (Rect areaL)
open Cp (Q Nd Br prQ validQ run root reach chk best le2 lows)
inductive BestV (P : Rooms) (p : Pb) (V : List Value) : Prop
 | bad : okA P p = none → V = [.slice none 0 0, .int .i64 0, .slice none 0 0, .int .i64 1] → BestV P p V
 | full : (A : List Int) → okA P p = some A → best (prQ p.q) A = none → V = [.slice none 0 0, .int .i64 0, .slice none 0 0, .int .i64 6] → BestV P p V
 | ok : (A : List Int) → (v : Int) → (c : List Int) → (T : List Br) → (k : Option Bool) → okA P p = some A → best (prQ p.q) A = some (v, c, T) → Enc.Ok k c → V = [intE.o k c, .int .i64 v, lst false (brR.vals T), .int .i64 0] → BestV P p V
end Go.Proofs.Ytcnafncmfiogcaa.Bm
namespace Go.Proofs.Ytcnafncmfiogcaa.Bm
open Go Go.RowKit
open Rg (Rect areaL)
open Cp (Q Nd Br prQ validQ run root reach chk best le2 lows prv forest conts kidsL)
theorem br_more (h : Heap) (b : Nat) (T U : List Br) (x : Bool) (hob : h[b]? = some (brR.row 41 T)) (hl : T.length + U.length ≤ 1000000) : appendT (some elBr) h 0 false (brR.sl b T) (lst x (brR.vals U)) = some (brR.sl b (T ++ U), h.set b (brR.row 41 (T ++ U))) :=
 Rec.app (R := brR) (el := elBr) (t := 41) rfl hob (Rec.cells_tree (x := x) rfl U) (Nat.zero_le _) (by show (T.length + U.length) * 16 ≤ 2 ^ 47; omega)
end Go.Proofs.Ytcnafncmfiogcaa.Bm
namespace Go.Proofs.Ytcnafncmfiogcaa.Bm
open Go Go.RowKit
open Rg (Rect areaL)
open Cp (Q Nd Br prQ validQ run root reach chk best next us conts grF inA fitS)
theorem Sq.fitS {q : Q} {A : List Int} {s : Nd} (h : Sq q A s) (hv : validQ q = true) (hA : A.length ≤ 12) (hi : inA A = true) (u : Int) : Cp.fitS q A (s.c ++ [u]) = (Cp.next (prQ q) s u).isSome := by
 rw [← Cp.fit_eq]; exact h.fit hv hA hi u
end Go.Proofs.Ytcnafncmfiogcaa.Bm
namespace Go.Proofs.Ytcnafncmfiogcaa.Bm
open Go Go.RowKit
open Rg (Rect areaL)
open Cp (Q Nd Br prQ validQ run root reach chk best next us conts inA)
def floorsV : Option (List Int) → List Value
 | none => [.slice none 0 0, .int .i64 1]
 | some A => [lst false (intE.vals A), .int .i64 0]
theorem floors_spec (x : Bool) (P : Rooms) (hP : RoomsOk P) (p : Pb) (hp : PbOk p) : pureCall E.P (L E) 55 [roomsV x P, .agg ⟨p.cells⟩] = some (.tuple ⟨floorsV (okA P p)⟩) := by
 have ar := rareas_spec x P hP
 have vd := rvalid_spec p hp
 have pe : p.val = .agg ⟨p.cells⟩ := rfl
 rw [pe] at vd
 have sR : settled depth (roomsV x P) = true := rfl
 have rcp : ∀ h, reifyC E.P 7 h p.cells = some p.cells := fun h => reifyC_set (pb_all p)
 have lp : ∀ t, loadT ⟨some true, some 4⟩ (AObj.cells 26 p.cells 0 :: t) (.pointer (some ⟨0, 0, none⟩)) = some (.agg ⟨p.cells⟩) := fun t => obj_all (b := 0) rfl rfl
 rw [pureCall_fn F55 rfl]
 unfold okA
 cases hA : areasF (lists P) with
 | none =>
  rw [hA] at ar
  unfold areasV at ar
  generalize roomsV x P = RV at *
  simp -implicitDefEqProofs [r55, p55, ret1 m20, sR, ar, floorsV]
 | some A =>
  rw [hA] at ar
  have ar : pureCall E.P (L E) 20 [roomsV x P] = some (.tuple ⟨[lst false (intE.vals A), .int .i64 0]⟩) := ar
  have rA : ∀ h, reify E.P 8 h (lst false (intE.vals A)) = some (lst false (intE.vals A)) := fun h => rfl
  cases hv : validQ p.q
  ·rw [hv] at vd
   generalize lst false (intE.vals A) = AV at *
   generalize roomsV x P = RV at *
   simp -implicitDefEqProofs [r55, p55, ret1 m20, sR, ar, lp, ret0 m16, rcp, vd, floorsV]
  ·rw [hv] at vd
   show _ = some (Value.tuple ⟨[lst false (intE.vals A), .int .i64 0]⟩)
   generalize lst false (intE.vals A) = AV at *
   generalize roomsV x P = RV at *
   simp -implicitDefEqProofs [r55, p55, ret1 m20, sR, ar, lp, ret0 m16, rcp, vd, rA]
theorem rreach_spec (p : Pb) (ka kc : Option Bool) (A : List Int) (hka : Enc.Ok ka A) (hAk : AOk A) (s : Nd) (hs : Sq p.q A s) (hkc : Enc.Ok kc s.c) : pureCall E.P (L E) 56 [intE.o ka A, .agg ⟨p.cells⟩, intE.o kc s.c] = some (.int .i64 (reach (prQ p.q) s)) := by
 obtain ⟨h1, h2, h3⟩ := hs.told
 have h13 := hAk.len
 have vs := value_spec ka kc A s.c hka hkc hAk (by omega)
 rw [← h2] at vs
 have lA := fun h => Enc.o_len (O := intE) (h := h) hka
 have lc := fun h => Enc.o_len (O := intE) (h := h) hkc
 have ix : ∀ (i : Nat) (hi : i < A.length), indexAddrT (.sl 3 ⟨some false, some 1⟩) (intE.o ka A) (.int .i64 (i : Int)) = some (cptr (.int .i64 A[i])) := fun i hi => Enc.index_o (O := intE) hka hi
 have rA : ∀ h, reify E.P 8 h (intE.o ka A) = some (intE.o ka A) := fun h => Enc.o_reify
 have rC : ∀ h, reify E.P 8 h (intE.o kc s.c) = some (intE.o kc s.c) := fun h => Enc.o_reify
 have l2 := pb_ld p 2 _ rfl
 have hvb := valF_le hAk s.c.length
 rw [← h2] at hvb
 generalize intE.o ka A = VA at *
 generalize intE.o kc s.c = VC at *
 have er : reach (prQ p.q) s = min (s.v + (A.drop s.c.length).sum) p.most := by unfold Cp.reach; rw [h1]; rfl
 rw [er, pureCall_fn F56 rfl]
 generalize hR : s.v + (A.drop s.c.length).sum = R
 simp -implicitDefEqProofs [r56, p56, ret0 m18, rA, rC, vs, lc]
 rw [LL_rec (α := Nat × Int) (s.c.length, s.v) (fun a => [(7, .int .i64 a.2), (8, .int .i64 (a.1 : Int))]) (fun _ => [AObj.cells 26 p.cells 0]) (fun _ => (.exit 0, [(7, .int .i64 R), (8, undef)], [AObj.cells 26 p.cells 0]))
  (fun a => a.1 ≤ A.length ∧ 0 ≤ a.2 ∧ a.2 ≤ (a.1 : Int) * 1099511627776 ∧ a.2 + (A.drop a.1).sum = R) (fun a => A.length - a.1) ⟨by show s.c.length ≤ A.length; omega, hvb.1, hvb.2, hR⟩]
 ·simp -implicitDefEqProofs [k56_3, l2, minI]
 ·simp -implicitDefEqProofs [k56_3]
 ·rfl
 ·intro nx a ha ih
  obtain ⟨i, v⟩ := a
  obtain ⟨g1, g2, g3, g4⟩ := ha
  simp only at g1 g2 g3 g4 ih ⊢
  by_cases hi : i < A.length
  ·have hi' : (i : Int) < A.length := by omega
   have xi := ix i hi
   have hab := hAk.a _ (List.getElem_mem hi)
   have hd : A.drop i = A[i] :: A.drop (i + 1) := List.drop_eq_getElem_cons hi
   rw [hd, List.sum_cons] at g4
   have ih := ih (i + 1, v + A[i]) (by show A.length - (i + 1) < A.length - i; omega) ⟨hi, by show 0 ≤ v + A[i]; omega, by show v + A[i] ≤ ((i + 1 : Nat) : Int) * 1099511627776; omega, by show v + A[i] + (A.drop (i + 1)).sum = R; omega⟩
   have w1 : IntKind.i64.wrap (v + A[i]) = v + A[i] := wrap64 (by omega) (by omega)
   have w2 : IntKind.i64.wrap ((i : Int) + 1) = ((i + 1 : Nat) : Int) := (wrap64 (by omega) (by omega)).trans (by omega)
   simp -implicitDefEqProofs [k56_3, -Int.natCast_add] at ih
   simp -implicitDefEqProofs [r56_3, k56_3, lA, hi', xi, w1, w2, trim_le, -Int.natCast_add]
   exact ih
  ·have hi' : ¬ (i : Int) < A.length := by omega
   rw [List.drop_eq_nil_of_le (by omega)] at g4
   have g4 : v = R := by simpa using g4
   subst g4
   simp -implicitDefEqProofs [r56_3, k56_3, lA, hi', trim_le]
def chE : Enc (List Int) := ⟨fun l => lst false (intE.vals l), fun _ => rfl, fun _ _ => rfl, fun _ _ _ => rfl, fun _ _ => rfl⟩
def nextC (P : Cp.Pr) (s : Nd) (u : Int) : Option (List Int) := (next P s u).map fun _ => s.c ++ [u]
def contC (P : Cp.Pr) (s : Nd) (u : Nat) : List (List Int) := (us.take u).filterMap (nextC P s)
theorem contC_none {P : Cp.Pr} {s : Nd} {u : Nat} (h : u < 6) (hn : next P s u = none) : contC P s (u + 1) = contC P s u := by
 unfold contC
 rw [us_take h, List.filterMap_append]
 have e : nextC P s u = none := by unfold nextC; rw [hn]; rfl
 rw [List.filterMap_cons_none e]; simp
theorem contC_some {P : Cp.Pr} {s t : Nd} {u : Nat} (h : u < 6) (hn : next P s u = some t) : contC P s (u + 1) = contC P s u ++ [s.c ++ [(u : Int)]] := by
 unfold contC
 rw [us_take h, List.filterMap_append]
 have e : nextC P s u = some (s.c ++ [(u : Int)]) := by unfold nextC; rw [hn]; rfl
 rw [List.filterMap_cons_some e]; rfl
theorem contC_len (P : Cp.Pr) (s : Nd) (u : Nat) : (contC P s u).length ≤ 6 := by
 unfold contC
 refine Nat.le_trans (List.length_filterMap_le _ _) ?_
 rw [List.length_take]
 show min u 6 ≤ 6
 omega
theorem contC_all (P : Cp.Pr) (s : Nd) : contC P s 6 = (conts P s).map fun t => t.c := by
 show us.filterMap (nextC P s) = (us.filterMap (next P s)).map fun t => t.c
 have key : ∀ l : List Int, l.filterMap (nextC P s) = (l.filterMap (next P s)).map fun t => t.c := by
  intro l
  induction l with
  | nil => rfl
  | cons u l ih =>
   cases hn : next P s u with
   | none =>
    have e : nextC P s u = none := by unfold nextC; rw [hn]; rfl
    rw [List.filterMap_cons_none e, List.filterMap_cons_none hn, ih]
   | some t =>
    have e : nextC P s u = some (s.c ++ [u]) := by unfold nextC; rw [hn]; rfl
    rw [List.filterMap_cons_some e, List.filterMap_cons_some hn, List.map_cons, ih]
    obtain ⟨a, r, _, rfl, _⟩ := Cp.next_some hn
    rfl
 exact key us
theorem sCh : szOf E.P 29 = some 1 := by kernel_rfl
theorem gCh : aggT E.P 29 = some false := by kernel_rfl
abbrev elCh : El := ⟨29, 1, 24, .slice none 0 0, ⟨some false, some 1⟩⟩
end Go.Proofs.Ytcnafncmfiogcaa.Bm
namespace Go.Proofs.Ytcnafncmfiogcaa.Bm
open Go Go.RowKit
open Cp (Q Nd Br prQ validQ run root reach chk best next us conts inA)
def cnH (p : Pb) (K : List (List Int)) : Heap := [AObj.cells 26 p.cells 0, chE.row 29 K]
theorem cnH_hb (p : Pb) (K : List (List Int)) : HB (cnH p K) := fun n _ => by
 have h1 := pb_bel p 7 n
 show (p.cells.all (below 8 n) && (belowO n (chE.row 29 K) && true)) = true
 rw [h1, Enc.row_bel]; rfl
theorem cnH_trim (p : Pb) (K : List (List Int)) (e : Heap) (l : List Value) (hl : l.all (below 8 2) = true) : trim 2 l (cnH p K ++ e) = cnH p K := trim_K rfl (cnH_hb p K) hl
theorem cnH_trim0 (p : Pb) (K : List (List Int)) (l : List Value) : trim 2 l (cnH p K) = cnH p K := trim_K0 rfl
theorem cnH_len (p : Pb) (K : List (List Int)) : (cnH p K).length = 2 := rfl
theorem cnH_app (p : Pb) (K : List (List Int)) (hK : K.length ≤ 100) (c : List Int) (o : AObj) : appendT (some elCh) (cnH p K ++ [o]) 0 false (Enc.sl 1 K) (lst true (chE.vals [c])) = some (Enc.sl 1 (K ++ [c]), cnH p (K ++ [c]) ++ [o]) :=
 (Enc.app (O := chE) (m := [c]) (el := elCh) (h := cnH p K ++ [o]) (lo := 0) (b := 1) (t := 29) (l := K) (u := lst true (chE.vals [c])) rfl rfl Enc.cells_tree (Nat.zero_le _) (by show (K.length + 1) * 24 ≤ 2 ^ 47; omega)).trans rfl
theorem Sq.fitR {q : Q} {A : List Int} {s : Nd} (h : Sq q A s) (hv : validQ q = true) (hA : A.length ≤ 12) (hi : inA A = true) (u : Int) : Cp.fitR q A (s.c ++ [u]) = (Cp.next (prQ q) s u).isSome := h.fit hv hA hi u
set_option maxHeartbeats 4000000 in
theorem cont_spec (p : Pb) (hp : PbOk p) (hv : validQ p.q = true) (ka : Option Bool) (A : List Int) (hka : Enc.Ok ka A) (hA12 : A.length ≤ 12) (hin : inA A = true) (s : Nd) (kc : Option Bool) (hs : Sq p.q A s) (hkc : Enc.Ok kc s.c) :
  pureCall E.P (L E) 83 [intE.o ka A, .agg ⟨p.cells⟩, intE.o kc s.c] = some (lst false (chE.vals (contC (prQ p.q) s 6))) := by
 obtain ⟨h1, h2, h3⟩ := hs.told
 have rA : ∀ h, reify E.P 8 h (intE.o ka A) = some (intE.o ka A) := fun h => Enc.o_reify
 have rcp : ∀ h, reifyC E.P 7 h p.cells = some p.cells := fun h => reifyC_set (pb_all p)
 have lp : ∀ t, loadT ⟨some true, some 4⟩ (AObj.cells 26 p.cells 0 :: t) (.pointer (some ⟨0, 0, none⟩)) = some (.agg ⟨p.cells⟩) := fun t => obj_all (b := 0) rfl rfl
 have lpK : ∀ K e, loadT ⟨some true, some 4⟩ (cnH p K ++ e) (.pointer (some ⟨0, 0, none⟩)) = some (.agg ⟨p.cells⟩) := fun K e => lp _
 have bA : ∀ d m, below (d + 1) m (intE.o ka A) = true := fun d m => Enc.o_bel
 have bC : ∀ d m, below (d + 1) m (intE.o kc s.c) = true := fun d m => Enc.o_bel
 have bP := pb_bel p
 have nr := fun K u => next_row (cnH p K) kc s.c hkc (by omega) u
 have fits := fun u (hu : 0 ≤ u ∧ u < 6) => rfits_spec p hp ka (some false) A (s.c ++ [u]) hka Enc.ok_some (by omega) (by simp only [List.length_append, List.length_cons, List.length_nil]; omega) (fun w hw => by
  rcases List.mem_append.1 hw with k | k
  ·have := hs.us w k; omega
  ·rw [List.mem_singleton.1 k]; omega)
 generalize intE.o ka A = VA at *
 generalize intE.o kc s.c = VC at *
 have nk : ∀ σ : Slots, newK E.P [AObj.cells 26 p.cells 0] σ 7 29 (.slice none 0 0) = some (setS σ 7 (Enc.sl 1 ([] : List (List Int))), cnH p []) := fun σ => by
  rw [newK_nil sCh]; rfl
 rw [pureCall_fn F83 rfl]
 simp -implicitDefEqProofs [r83, p83, prep_new, nk]
 rw [LL_rec (α := Nat) 0 (fun u => [(7, Enc.sl 1 (contC (prQ p.q) s u)), (8, .int .i64 (u : Int))]) (fun u => cnH p (contC (prQ p.q) s u)) (fun _ => (.exit 0, [(7, Enc.sl 1 (contC (prQ p.q) s 6)), (8, undef)], cnH p (contC (prQ p.q) s 6))) (fun u => u ≤ 6) (fun u => 6 - u) (Nat.zero_le _)]
 ·have rf : ∀ K : List (List Int), reifyR E.P (cnH p K) (Enc.sl 1 K) = some (lst false (chE.vals K)) := fun K => Enc.reifyR_sl (O := chE) (b := 1) (t := 29) (h := cnH p K) rfl sCh gCh
  generalize contC (prQ p.q) s 6 = K at *
  simp -implicitDefEqProofs [k83_3, rf]
 ·simp -implicitDefEqProofs [k83_3, contC]
 ·rfl
 ·intro nx u hu ihl
  by_cases hu6 : u < 6
  case neg =>
   have e6 : u = 6 := by omega
   subst e6
   simp -implicitDefEqProofs [r83_3, k83_3, cnH_len, cnH_trim0]
  have hu' : (u : Int) < 6 := by omega
  have wu : IntKind.i64.wrap ((u : Int) + 1) = ((u + 1 : Nat) : Int) := (wrap64 (by omega) (by omega)).trans (by omega)
  have hK := contC_len (prQ p.q) s u
  have ihl := ihl (u + 1) (by omega) hu6
  obtain ⟨x, h1', ap1, ap2⟩ := nr (contC (prQ p.q) s u) (u : Int)
  have fz := frz_row (cnH p (contC (prQ p.q) s u)) (s.c ++ [(u : Int)]) (by simp) 0 (Nat.zero_le _)
  rw [cnH_len] at fz ap2
  have fz : freezeV E.P depth 0 (cnH p (contC (prQ p.q) s u) ++ [intE.row 3 (s.c ++ [(u : Int)])]) (Enc.sl 2 (s.c ++ [(u : Int)])) = some (lst false (intE.vals (s.c ++ [(u : Int)])), cnH p (contC (prQ p.q) s u) ++ [AObj.dead]) := fz
  have lin : ∀ h : Heap, buildSliceT (some ⟨3, 1, 8, .int .i64 0, ⟨some false, some 1⟩⟩) false h 1 #[(0, .int .i64 (u : Int))] = some (lst true (intE.vals [(u : Int)]), h) := fun h => lit_int h u
  have ft := fits (u : Int) ⟨by omega, by omega⟩
  rw [hs.fitR hv hA12 hin] at ft
  have ft : pureCall E.P (L E) 17 [VA, .agg ⟨p.cells⟩, lst false (intE.vals (s.c ++ [(u : Int)]))] = _ := ft
  have rn : ∀ h, reify E.P 8 h (lst false (intE.vals (s.c ++ [(u : Int)]))) = some (lst false (intE.vals (s.c ++ [(u : Int)]))) := fun h => rfl
  have lch : ∀ h : Heap, buildSliceT (some elCh) false h 1 #[(0, lst false (intE.vals (s.c ++ [(u : Int)])))] = some (lst true (chE.vals [s.c ++ [(u : Int)]]), h) := fun h => Enc.lit (O := chE) (s.c ++ [(u : Int)]) rfl rfl rfl
  have apc := cnH_app p (contC (prQ p.q) s u) (by omega) (s.c ++ [(u : Int)]) AObj.dead
  have bS : ∀ (K : List (List Int)) d, below (d + 1) 2 (Enc.sl 1 K) = true := fun K d => Enc.sl_bel (by decide)
  cases hnx : next (prQ p.q) s (u : Int) with
  | none =>
   rw [hnx] at ft
   simp only [Option.isSome_none] at ft
   rw [contC_none hu6 hnx] at ihl
   generalize contC (prQ p.q) s u = K at *
   simp -implicitDefEqProofs [k83_3, -Int.natCast_add] at ihl
   simp -implicitDefEqProofs [r83_3, k83_3, hu', lin, lit_none, ap1, ap2, prep_frz, fz, lpK, ret0 m17, rA, rcp, rn, ft, wu, cnH_len, cnH_trim, bA, bC, bP, bS, -append_lst, -append_slice, -List.all_eq_true, -Int.natCast_add]
   exact ihl
  | some t =>
   rw [hnx] at ft
   simp only [Option.isSome_some] at ft
   rw [contC_some hu6 hnx] at ihl
   generalize contC (prQ p.q) s u = K at *
   simp -implicitDefEqProofs [k83_3, -Int.natCast_add] at ihl
   simp -implicitDefEqProofs [r83_3, k83_3, hu', lin, lit_none, ap1, ap2, prep_frz, fz, lpK, ret0 m17, rA, rcp, rn, ft, lch, apc, wu, cnH_len, cnH_trim, bA, bC, bP, bS, -append_lst, -append_slice, -List.all_eq_true, -Int.natCast_add]
   exact ihl
end Go.Proofs.Ytcnafncmfiogcaa.Bm
namespace Go.Proofs.Ytcnafncmfiogcaa.Bm
open Go Go.RowKit
open Cp (Q Nd Br prQ validQ run root reach chk best next us conts inA prv forest)
def wC (av : Value) (p : Pb) (tv : Value) (at_ : Nat) (ov : Value) (bad : Bool) : List Value := av :: (p.cells ++ [tv, .int .i64 at_, ov, .bool bad])
def wH (p : Pb) (av tv : Value) (at_ : Nat) (out : List Br) (bad : Bool) : Heap := [AObj.cells 26 p.cells 0, AObj.cells 114 (wC av p tv at_ (brR.sl 2 out) bad) 0, brR.row 41 out]
section
variable {p : Pb} {av tv : Value} {at_ : Nat} {out : List Br} {bad : Bool}
theorem wH_len : (wH p av tv at_ out bad).length = 3 := rfl
theorem wH_trim (l : List Value) : trim 3 l (wH p av tv at_ out bad) = wH p av tv at_ out bad := trim_K0 rfl
theorem w0 : loadT ⟨some false, some 1⟩ (wH p av tv at_ out bad) (.pointer (some ⟨1, 0, none⟩)) = some av := obj_load (b := 1) (j := 0) rfl rfl
theorem w1 : loadT ⟨some true, some 4⟩ (wH p av tv at_ out bad) (.pointer (some ⟨1, 1, none⟩)) = some (.agg ⟨p.cells⟩) := obj_sub (b := 1) (j := 1) (n := 4) (t := 114) (c := wC av p tv at_ (brR.sl 2 out) bad) rfl (show 1 + 4 ≤ 9 by decide)
theorem w5 : loadT ⟨some false, some 1⟩ (wH p av tv at_ out bad) (.pointer (some ⟨1, 5, none⟩)) = some tv := obj_load (b := 1) (j := 5) rfl rfl
theorem w6 : loadT ⟨some false, some 1⟩ (wH p av tv at_ out bad) (.pointer (some ⟨1, 6, none⟩)) = some (.int .i64 at_) := obj_load (b := 1) (j := 6) rfl rfl
theorem w7 : loadT ⟨some false, some 1⟩ (wH p av tv at_ out bad) (.pointer (some ⟨1, 7, none⟩)) = some (brR.sl 2 out) := obj_load (b := 1) (j := 7) rfl rfl
theorem w8 : loadT ⟨some false, some 1⟩ (wH p av tv at_ out bad) (.pointer (some ⟨1, 8, none⟩)) = some (.bool bad) := obj_load (b := 1) (j := 8) rfl rfl
theorem ws6 (z : Nat) : storeT (some 1) (wH p av tv at_ out bad) 0 (.int .i64 z) (.pointer (some ⟨1, 6, none⟩)) = some (wH p av tv z out bad) :=
 (obj_store (h := wH p av tv at_ out bad) (b := 1) (j := 6) (lo := 0) (t := 114) (c := wC av p tv at_ (brR.sl 2 out) bad) (v := .int .i64 z) rfl (show 6 < 9 by decide) (Nat.zero_le _) rfl).trans rfl
theorem ws8 : storeT (some 1) (wH p av tv at_ out bad) 0 (.bool true) (.pointer (some ⟨1, 8, none⟩)) = some (wH p av tv at_ out true) :=
 (obj_store (h := wH p av tv at_ out bad) (b := 1) (j := 8) (lo := 0) (t := 114) (c := wC av p tv at_ (brR.sl 2 out) bad) (v := .bool true) rfl (show 8 < 9 by decide) (Nat.zero_le _) rfl).trans rfl
theorem wapp (x : Br) (ho : out.length ≤ 5000) : ∃ h1, appendT (some elBr) (wH p av tv at_ out bad) 0 false (brR.sl 2 out) (lst true [BV x.kids x.bound]) = some (brR.sl 2 (out ++ [x]), h1) ∧ storeT (some 1) h1 0 (brR.sl 2 (out ++ [x])) (.pointer (some ⟨1, 7, none⟩)) = some (wH p av tv at_ (out ++ [x]) bad) := by
 refine ⟨[AObj.cells 26 p.cells 0, AObj.cells 114 (wC av p tv at_ (brR.sl 2 out) bad) 0, brR.row 41 (out ++ [x])], ?_, ?_⟩
 ·exact br_more (wH p av tv at_ out bad) 2 out [x] true rfl (by simp only [List.length_cons, List.length_nil]; omega)
 ·exact (obj_store (h := [AObj.cells 26 p.cells 0, AObj.cells 114 (wC av p tv at_ (brR.sl 2 out) bad) 0, brR.row 41 (out ++ [x])]) (b := 1) (j := 7) (lo := 0) (t := 114) (c := wC av p tv at_ (brR.sl 2 out) bad) (v := brR.sl 2 (out ++ [x])) rfl (show 7 < 9 by decide) (Nat.zero_le _) rfl).trans rfl
theorem wset (i : Nat) (hi : i < out.length) (m : Int) : storeT (some 1) (wH p av tv at_ out bad) 0 (.int .i64 m) (brR.at_ 2 out i 1) = some (wH p av tv at_ (out.set i ⟨out[i].kids, m⟩) bad) := by
 refine (Rec.store_cell (R := brR) (h := wH p av tv at_ out bad) (b := 2) (t := 41) (a := ⟨out[i].kids, m⟩) rfl rfl (Nat.zero_le _) hi (by decide) rfl).trans ?_
 unfold wH
 rw [sl_same (T' := out.set i ⟨out[i].kids, m⟩) (T := out) List.length_set]
 rfl
end
def NTold (T : List Br) (out : List Br) (m : Int) (at' : Nat) (out' : List Br) (bad' : Bool) : Option Cp.Rd → Prop
 | none => bad' = true
 | some y => bad' = false ∧ m = y.1 ∧ out' = out ++ y.2.1 ∧ at' ≤ T.length ∧ T.drop at' = y.2.2
def NdG (p : Pb) (av tv : Value) (T : List Br) (at_ : Nat) (out : List Br) (o : Option Cp.Rd) (X : Option (Value × Heap)) : Prop :=
 ∃ m at' out' bad', X = some (.int .i64 m, wH p av tv at' out' bad') ∧ out'.length = at' ∧ at_ ≤ at' ∧ NTold T out m at' out' bad' o
def NdN (p : Pb) (A : List Int) (T : List Br) (n : Nat) : Prop := ∀ (s : Nd) (kc : Option Bool) (at_ : Nat) (out : List Br), s.rem.length ≤ n → Sq p.q A s → Enc.Ok kc s.c → out.length = at_ →
 NdG p (lst false (intE.vals A)) (lst false (brR.vals T)) T at_ out (prv (prQ p.q) n s (T.drop at_)) (L E 72 [.pointer (some ⟨1, 0, none⟩), intE.o kc s.c] (wH p (lst false (intE.vals A)) (lst false (brR.vals T)) at_ out false) 0)
theorem BV_load (h : Heap) (a b : Int) : loadT ⟨some true, some 2⟩ h (cptr (BV a b)) = some (BV a b) := rfl
set_option maxHeartbeats 8000000 in
theorem node_all (p : Pb) (hp : PbOk p) (hv : validQ p.q = true) (A : List Int) (hA12 : A.length ≤ 12) (hin : inA A = true) (T : List Br) (hT : T.length ≤ 4000) (n : Nat) (ih : ∀ m, n = m + 1 → NdN p A T m) : NdN p A T n := by
 intro s kc at_ out hn hs hkc hout
 obtain ⟨h1, h2, h3⟩ := hs.told
 have hAk : AOk A := ⟨by omega, fun a ha => by have := Cp.inA_iff.1 hin a ha; omega⟩
 have ct := cont_spec p hp hv (some false) A Enc.ok_some hA12 hin s kc hs hkc
 have vs := value_spec (some false) kc A s.c Enc.ok_some hkc hAk (by omega)
 rw [← h2] at vs
 have rs := rreach_spec p (some false) kc A Enc.ok_some hAk s hs hkc
 have lT : ∀ h, lenT .sl h (lst false (brR.vals T)) = some (.int .i64 T.length) := fun h => Rec.o_len (R := brR) (k := some false) Rec.ok_some
 have iT : ∀ (i : Nat) (hi : i < T.length), indexAddrT (.sl 41 ⟨some true, some 2⟩) (lst false (brR.vals T)) (.int .i64 (i : Int)) = some (cptr (BV T[i].kids T[i].bound)) := brV_index (some false) T Rec.ok_some
 have ct : pureCall E.P (L E) 83 [lst false (intE.vals A), .agg ⟨p.cells⟩, intE.o kc s.c] = some (lst false (chE.vals (contC (prQ p.q) s 6))) := ct
 have vs : pureCall E.P (L E) 18 [lst false (intE.vals A), intE.o kc s.c] = some (.int .i64 s.v) := vs
 have rs : pureCall E.P (L E) 56 [lst false (intE.vals A), .agg ⟨p.cells⟩, intE.o kc s.c] = some (.int .i64 (reach (prQ p.q) s)) := rs
 have sA : settled depth (lst false (intE.vals A)) = true := rfl
 have sP : settled depth (.agg ⟨p.cells⟩) = true := p.set
 have sC : settled depth (intE.o kc s.c) = true := Enc.o_set
 have rA : ∀ h, reify E.P 8 h (lst false (intE.vals A)) = some (lst false (intE.vals A)) := fun h => rfl
 have rC : ∀ h, reify E.P 8 h (intE.o kc s.c) = some (intE.o kc s.c) := fun h => Enc.o_reify
 have rcp : ∀ h, reifyC E.P 7 h p.cells = some p.cells := fun h => reifyC_set (pb_all p)
 have ecc : contC (prQ p.q) s 6 = (conts (prQ p.q) s).map fun t => t.c := contC_all _ _
 have ecl : (contC (prQ p.q) s 6).length = (conts (prQ p.q) s).length := by rw [ecc, List.length_map]
 have lC : ∀ h, lenT .sl h (lst false (chE.vals (contC (prQ p.q) s 6))) = some (.int .i64 (conts (prQ p.q) s).length) := fun h => by
  rw [← ecl]; exact Enc.o_len (O := chE) (k := some false) Enc.ok_some
 have iC : ∀ (i : Nat) (hi : i < (conts (prQ p.q) s).length), indexAddrT (.sl 29 ⟨some false, some 1⟩) (lst false (chE.vals (contC (prQ p.q) s 6))) (.int .i64 (i : Int)) = some (cptr (lst false (intE.vals (conts (prQ p.q) s)[i].c))) := fun i hi => by
  have := Enc.index_tree (O := chE) (x := false) (t := 29) (k := .i64) (l := contC (prQ p.q) s 6) (i := i) (by omega)
  rw [this]
  simp only [ecc, List.getElem_map]
  rfl
 have h6 := conts_len (prQ p.q) s
 rw [L_fn F72 rfl]
 generalize hAVe : lst false (intE.vals A) = AV at *
 generalize hTV : lst false (brR.vals T) = TV at *
 generalize lst false (chE.vals (contC (prQ p.q) s 6)) = CV at *
 generalize hkcv : intE.o kc s.c = KV at *
 have q0 := fun a o b => w0 (p := p) (av := AV) (tv := TV) (at_ := a) (out := o) (bad := b)
 have q1 := fun a o b => w1 (p := p) (av := AV) (tv := TV) (at_ := a) (out := o) (bad := b)
 have q5 := fun a o b => w5 (p := p) (av := AV) (tv := TV) (at_ := a) (out := o) (bad := b)
 have q6 := fun a o b => w6 (p := p) (av := AV) (tv := TV) (at_ := a) (out := o) (bad := b)
 have q7 := fun a o b => w7 (p := p) (av := AV) (tv := TV) (at_ := a) (out := o) (bad := b)
 have q8 := fun a o b => w8 (p := p) (av := AV) (tv := TV) (at_ := a) (out := o) (bad := b)
 have qs8 := fun a o b => ws8 (p := p) (av := AV) (tv := TV) (at_ := a) (out := o) (bad := b)
 have bvl := BV_load
 by_cases hat : T.length ≤ at_
 ·have hat' : (T.length : Int) ≤ (at_ : Int) := by omega
  rw [List.drop_eq_nil_of_le hat, Cp.prv_nil]
  refine ⟨0, at_, out, true, ?_, hout, Nat.le_refl _, rfl⟩
  simp -implicitDefEqProofs [r72, p72, rop_nilT, nilP, q8, q6, q5, lT, hat', qs8]
 have hat1 : at_ < T.length := by omega
 have hat' : ¬ ((T.length : Int) ≤ (at_ : Int)) := by omega
 have wa : IntKind.i64.wrap ((at_ : Int) + 1) = (at_ : Int) + 1 := wrap64 (by omega) (by omega)
 have xa := iT at_ hat1
 have hTd : T.drop at_ = T[at_] :: T.drop (at_ + 1) := List.drop_eq_getElem_cons hat1
 obtain ⟨hA1, ap, st7⟩ := wapp (p := p) (av := AV) (tv := TV) (at_ := at_ + 1) (out := out) (bad := false) T[at_] (by omega)
 have ws : storeT (some 1) (wH p AV TV at_ out false) 0 (.int .i64 ((at_ : Int) + 1)) (.pointer (some ⟨1, 6, none⟩)) = some (wH p AV TV (at_ + 1) out false) := ws6 (at_ + 1)
 have li := fun h => lit_b h T[at_].kids T[at_].bound
 rw [hTd, prv_any hn]
 by_cases c1 : T[at_].kids = (conts (prQ p.q) s).length
 ·rw [if_pos c1]
  generalize hF : forest (prv (prQ p.q) (n - 1)) (conts (prQ p.q) s) s.v (T.drop (at_ + 1)) = F
  generalize ho : headF T[at_].kids F = o
  have hcm : ∀ t ∈ conts (prQ p.q) s, Sq p.q A t ∧ t.rem.length + 1 = s.rem.length := fun t ht => by
   obtain ⟨u, hu⟩ := Cp.conts_mem ht
   obtain ⟨k1, _, k3⟩ := hs.next hu
   exact ⟨k1, k3⟩
  have hos1 : (out ++ [T[at_]]).length = at_ + 1 := by rw [List.length_append, hout]; rfl
  generalize hC : conts (prQ p.q) s = C at *
  have xk := xa
  rw [c1] at xk
  rcases Classical.em (C = []) with hz | hz
  case' inl =>
   have k0 : T[at_].kids = 0 := by rw [c1, hz]; rfl
   have lC0 : ∀ h, lenT .sl h CV = some (.int .i64 0) := fun h => by rw [lC, hz]; rfl
   rw [k0] at xa li ap
   simp -implicitDefEqProofs [r72, p72, rop_nilT, nilP, q8, q6, q5, lT, hat', wa, ws, q7, xa, bvl, li, ap, st7, q0, q1, ret1 m83, sA, sP, sC, ct, ret0 m18, rA, rC, vs, br_f0, lC0, -append_slice]
  case' inr =>
   rw [c1] at xa li ap
   simp -implicitDefEqProofs [r72, p72, rop_nilT, nilP, q8, q6, q5, lT, hat', wa, ws, q7, xa, bvl, li, ap, st7, q0, q1, ret1 m83, sA, sP, sC, ct, ret0 m18, rA, rC, vs, br_f0, lC, hz, -append_slice]
  all_goals
   refine ux_goal (G := fun X => NdG p AV TV T at_ out o (retK [RRes.tmp 4] (seqC E (L E) LL 0 (blkK 0 X) _)))
    (LL_ux (α := Nat × Int × Nat × List Br × Bool) (U := Int × Nat × List Br × Bool) (0, s.v, at_ + 1, out ++ [T[at_]], false) (fun a => [(7, .int .i64 a.2.1), (8, .int .i64 (a.1 : Int))]) (fun a => wH p AV TV a.2.2.1 a.2.2.2.1 a.2.2.2.2)
     (.exit 0) (fun u => [(7, .int .i64 u.1), (8, undef)])
     (fun u h' => h' = wH p AV TV u.2.1 u.2.2.1 u.2.2.2 ∧ u.2.2.1.length = u.2.1 ∧ at_ + 1 ≤ u.2.1 ∧ NTold T (out ++ [T[at_]]) u.1 u.2.1 u.2.2.1 u.2.2.2 F)
     (fun a => a.1 ≤ C.length ∧ a.2.2.2.1.length = a.2.2.1 ∧ at_ + 1 ≤ a.2.2.1 ∧ (if a.2.2.2.2 = true then F = none else a.2.2.1 ≤ T.length ∧ ∃ o', a.2.2.2.1 = out ++ [T[at_]] ++ o' ∧ F = joinF o' (forest (prv (prQ p.q) (n - 1)) (C.drop a.1) a.2.1 (T.drop a.2.2.1))))
     (fun a => 2 * (C.length - a.1) + (if a.2.2.2.2 = true then 0 else 1)) ?_ ?_ ?_ ?_) ?_
   ·refine ⟨Nat.zero_le _, hos1, Nat.le_refl _, ?_⟩
    rw [if_neg (show ¬ false = true by decide)]
    refine ⟨hat1, [], (List.append_nil _).symm, ?_⟩
    show F = joinF [] (forest (prv (prQ p.q) (n - 1)) C s.v (T.drop (at_ + 1)))
    rw [hF]
    cases F <;> rfl
   ·simp -implicitDefEqProofs [k72_15]
   ·rfl
   ·intro nx a ha ihl
    obtain ⟨i, m, ai, oi, bi⟩ := a
    obtain ⟨g1, g2, g3, g4⟩ := ha
    simp only at g1 g2 g3 g4 ihl ⊢
    cases bi with
    | true =>
     rw [if_pos rfl] at g4
     subst g4
     refine ⟨(m, ai, oi, true), wH p AV TV ai oi true, ?_, rfl, g2, g3, rfl⟩
     by_cases hi : i < C.length
     ·have hi' : (i : Int) < (C.length : Int) := by omega
      simp -implicitDefEqProofs [r72_15, k72_15, rop_nilT, nilP, q5, q8, xk, br_f0, hi', wH_len, wH_trim]
     ·have hi' : ¬ (i : Int) < (C.length : Int) := by omega
      simp -implicitDefEqProofs [r72_15, k72_15, rop_nilT, nilP, q5, q8, xk, br_f0, hi', wH_len, wH_trim]
    | false =>
     rw [if_neg (by decide)] at g4
     obtain ⟨g4, o', g5, g6⟩ := g4
     by_cases hi : i < C.length
     case neg =>
      have hi' : ¬ (i : Int) < (C.length : Int) := by omega
      have e : i = C.length := by omega
      rw [e, List.drop_length, Cp.forest_nil] at g6
      have g6 : F = some (m, o' ++ [], T.drop ai) := g6
      rw [List.append_nil] at g6
      subst g6
      refine ⟨(m, ai, oi, false), wH p AV TV ai oi false, ?_, rfl, g2, g3, rfl, rfl, g5, g4, rfl⟩
      simp -implicitDefEqProofs [r72_15, k72_15, rop_nilT, nilP, q5, q8, xk, br_f0, hi', wH_len, wH_trim]
     have hi' : (i : Int) < (C.length : Int) := by omega
     have wi : IntKind.i64.wrap ((i : Int) + 1) = ((i + 1 : Nat) : Int) := (wrap64 (by omega) (by omega)).trans (by omega)
     have hdC : C.drop i = C[i] :: C.drop (i + 1) := List.drop_eq_getElem_cons hi
     obtain ⟨hsi, hri⟩ := hcm C[i] (List.getElem_mem hi)
     obtain ⟨n', rfl⟩ : ∃ n', n = n' + 1 := ⟨n - 1, by omega⟩
     have xc := iC i hi
     have lcc : ∀ h, loadT ⟨some false, some 1⟩ h (cptr (lst false (intE.vals C[i].c))) = some (lst false (intE.vals C[i].c)) := fun h => rfl
     obtain ⟨m2, a2, o2, b2, r2, j1, j2, j3⟩ := ih n' rfl C[i] (some false) ai oi (by omega) hsi Enc.ok_some g2
     rw [hTV, hAVe] at r2
     have r2 : L E 72 [.pointer (some ⟨1, 0, none⟩), lst false (intE.vals C[i].c)] (wH p AV TV ai oi false) 0 = some (.int .i64 m2, wH p AV TV a2 o2 b2) := r2
     have rc : retCall E (L E) 0 false 72 [.pointer (some ⟨1, 0, none⟩), lst false (intE.vals C[i].c)] (wH p AV TV ai oi false) = some (.int .i64 m2, wH p AV TV a2 o2 b2) := by
      rw [ret3t m72, r2, Option.map_some]
      show some (_, trim 3 _ _) = _
      rw [wH_trim]
     rw [hdC] at g6
     have hI : (if b2 = true then F = none else a2 ≤ T.length ∧ ∃ o'', o2 = out ++ [T[at_]] ++ o'' ∧ F = joinF o'' (forest (prv (prQ p.q) (n' + 1 - 1)) (C.drop (i + 1)) (max m m2) (T.drop a2))) := by
      cases hp2 : prv (prQ p.q) n' C[i] (T.drop ai) with
      | none =>
       rw [hp2] at j3
       have j3 : b2 = true := j3
       rw [if_pos j3, g6, show n' + 1 - 1 = n' from rfl, forest_none hp2]; rfl
      | some y =>
       rw [hp2] at j3
       obtain ⟨k1, k2, k3, k4, k5⟩ := j3
       rw [if_neg (by rw [k1]; decide)]
       refine ⟨k4, o' ++ y.2.1, by rw [k3, g5, List.append_assoc], ?_⟩
       rw [g6, show n' + 1 - 1 = n' from rfl, forest_some hp2, joinF_join, k5, k2]
     have ihl := ihl (i + 1, max m m2, a2, o2, b2) (by show 2 * (C.length - (i + 1)) + (if b2 = true then 0 else 1) < 2 * (C.length - i) + 1; split <;> omega) ⟨hi, j1, by show at_ + 1 ≤ a2; omega, hI⟩
     simp only at ihl
     have mx := maxI m m2
     generalize max m m2 = mm at *
     obtain ⟨u, h', e1, e2⟩ := ihl
     refine ⟨u, h', ?_, e2⟩
     rw [← e1]
     simp -implicitDefEqProofs [k72_15, -Int.natCast_add]
     simp -implicitDefEqProofs [r72_15, k72_15, rop_nilT, nilP, q5, q8, xk, br_f0, hi', xc, lcc, rc, mx, wi, wH_len, wH_trim, -Int.natCast_add]
   ·rintro ⟨m, ai, oi, bi⟩ h' ⟨rfl, k1, k2, k3⟩
    simp only at k1 k2 k3
    have hio : at_ < oi.length := by omega
    have ig := Rec.index_row (R := brR) (h0 := 2) (t := 41) (g := some true) (b := 2) (l := oi) (i := at_) (k := .i64) rfl hio
    have fg1 := Rec.field_row (R := brR) (b := 2) (n := 0) (f := 1) (l := oi) (i := at_) (k := ⟨some true, some 2⟩) (g := some false)
    have wst := wset (p := p) (av := AV) (tv := TV) (at_ := ai) (out := oi) (bad := bi) at_ hio m
    refine ⟨m, ai, oi.set at_ ⟨oi[at_].kids, m⟩, bi, ?_, by rw [List.length_set, k1], by omega, ?_⟩
    ·simp -implicitDefEqProofs [k72_15, rop_nilT, nilP, q7, ig, fg1, wst]
    ·subst ho
     cases F with
     | none => exact k3
     | some y =>
      obtain ⟨z1, z2, z3, z4, z5⟩ := k3
      refine ⟨z1, z2, ?_, z4, z5⟩
      show oi.set at_ ⟨oi[at_].kids, m⟩ = out ++ (⟨T[at_].kids, y.1⟩ :: y.2.1)
      have e1 : oi[at_] = T[at_] := by
       have h1 : oi[at_]? = some T[at_] := by rw [z3, List.append_assoc, List.getElem?_append_right (by omega), hout, Nat.sub_self]; rfl
       rw [List.getElem?_eq_getElem hio] at h1
       exact Option.some.inj h1
      rw [e1, z3, z2, List.append_assoc, List.set_append_right _ _ (by omega), hout, Nat.sub_self]; rfl
 rw [if_neg c1]
 by_cases c2 : T[at_].kids = 0
 ·rw [if_pos c2]
  have c3 : 0 < (conts (prQ p.q) s).length := by omega
  have c3' : (0 : Int) < ((conts (prQ p.q) s).length : Int) := by omega
  have hos : at_ < (out ++ [T[at_]]).length := by rw [List.length_append]; simp only [List.length_cons, List.length_nil]; omega
  have hoa : (out ++ [T[at_]])[at_] = T[at_] := by
   have h1 : (out ++ [T[at_]])[at_]? = some T[at_] := by rw [List.getElem?_append_right (by omega), hout, Nat.sub_self]; rfl
   rw [List.getElem?_eq_getElem hos] at h1
   exact Option.some.inj h1
  have wst := wset (p := p) (av := AV) (tv := TV) (at_ := at_ + 1) (out := out ++ [T[at_]]) (bad := false) at_ hos (reach (prQ p.q) s)
  rw [hoa] at wst
  have ig := Rec.index_row (R := brR) (h0 := 2) (t := 41) (g := some true) (b := 2) (l := out ++ [T[at_]]) (i := at_) (k := .i64) rfl hos
  have fg1 := Rec.field_row (R := brR) (b := 2) (n := 0) (f := 1) (l := out ++ [T[at_]]) (i := at_) (k := ⟨some true, some 2⟩) (g := some false)
  refine ⟨reach (prQ p.q) s, at_ + 1, (out ++ [T[at_]]).set at_ ⟨T[at_].kids, reach (prQ p.q) s⟩, false, ?_, by rw [List.length_set, List.length_append]; simp only [List.length_cons, List.length_nil]; omega, Nat.le_succ _, rfl, rfl, ?_, hat1, rfl⟩
  ·rw [c2] at xa li ap wst ⊢
   simp -implicitDefEqProofs [r72, p72, rop_nilT, nilP, q8, q6, q5, lT, hat', wa, ws, q7, xa, bvl, li, ap, st7, q0, q1, ret1 m83, sA, sP, sC, ct, ret0 m18, rA, rC, vs, br_f0, c3, c3', lC, ret0 m56, rcp, rs, -append_slice]
   rw [LL_go]
   simp -implicitDefEqProofs [r72_15, k72_15, rop_nilT, nilP, q5, q7, xa, br_f0, wH_len, wH_trim, ig, fg1, wst]
  ·show (out ++ [T[at_]]).set at_ ⟨T[at_].kids, reach (prQ p.q) s⟩ = out ++ [⟨T[at_].kids, reach (prQ p.q) s⟩]
   rw [List.set_append_right _ _ (by omega), hout, Nat.sub_self]; rfl
 ·rw [if_neg c2]
  have c1' : ¬ T[at_].kids = ((conts (prQ p.q) s).length : Int) := c1
  refine ⟨0, at_ + 1, out ++ [T[at_]], true, ?_, by rw [List.length_append]; simp only [List.length_cons, List.length_nil]; omega, Nat.le_succ _, rfl⟩
  simp -implicitDefEqProofs [r72, p72, rop_nilT, nilP, q8, q6, q5, lT, hat', wa, ws, q7, xa, bvl, li, ap, st7, q0, q1, ret1 m83, sA, sP, sC, ct, ret0 m18, rA, rC, vs, br_f0, c1', c2, lC, qs8, -append_slice]
end Go.Proofs.Ytcnafncmfiogcaa.Bm
namespace Go.Proofs.Ytcnafncmfiogcaa.Bm
open Go Go.RowKit
open Rg (Rect areaL)
open Cp (Q Nd Br prQ validQ run root reach chk best next us conts inA prv forest lows fitR)
theorem ndN (p : Pb) (hp : PbOk p) (hv : validQ p.q = true) (A : List Int) (hA12 : A.length ≤ 12) (hin : inA A = true) (T : List Br) (hT : T.length ≤ 4000) : ∀ n, NdN p A T n
 | 0 => node_all p hp hv A hA12 hin T hT 0 fun m hm => by omega
 | n + 1 => node_all p hp hv A hA12 hin T hT (n + 1) fun m hm => by
  have : n = m := by omega
  subst this; exact ndN p hp hv A hA12 hin T hT n
theorem w_build0 (la lt : List Value) (a b c d : Value) : buildT (.fs ⟨[.slice none 0 0, .int .i64 0, .slice none 0 0, .int .i64 0, .slice none 0 0, .slice none 0 0, .int .i64 0, .slice none 0 0, .bool false]⟩ ⟨[(0, 1), (1, 4), (5, 1), (6, 1), (7, 1), (8, 1)]⟩) #[(0, lst false la), (1, .agg ⟨[a, b, c, d]⟩), (2, lst false lt)] = some (.agg ⟨lst false la :: ([a, b, c, d] ++ [lst false lt, .int .i64 ((0 : Nat) : Int), .slice none 0 0, .bool false])⟩) := by kernel_rfl
theorem w_build (p : Pb) (A : List Int) (T : List Br) : buildT (.fs ⟨[.slice none 0 0, .int .i64 0, .slice none 0 0, .int .i64 0, .slice none 0 0, .slice none 0 0, .int .i64 0, .slice none 0 0, .bool false]⟩ ⟨[(0, 1), (1, 4), (5, 1), (6, 1), (7, 1), (8, 1)]⟩) #[(0, lst false (intE.vals A)), (1, .agg ⟨p.cells⟩), (2, lst false (brR.vals T))] = some (.agg ⟨wC (lst false (intE.vals A)) p (lst false (brR.vals T)) 0 (.slice none 0 0) false⟩) := w_build0 _ _ _ _ _ _
theorem w_newc (p : Pb) (AV TV : Value) (σ : Slots) : newcK E.P 0 [AObj.cells 26 p.cells 0, AObj.cells 114 (wC AV p TV 0 (.slice none 0 0) false) 0] σ 7 41 (.pointer (some ⟨1, 0, none⟩)) = some (σ, wH p AV TV 0 [] false) :=
 (newcK_cell (off := 0) (n := 1) (b := 1) (g := 0) (ty := 114) (c := wC AV p TV 0 (.slice none 0 0) false) rfl rfl sB2 (Nat.zero_le _)).trans rfl
set_option maxHeartbeats 4000000 in
theorem rtight_spec (p : Pb) (hp : PbOk p) (hv : validQ p.q = true) (A : List Int) (hA12 : A.length ≤ 12) (hin : inA A = true) (T : List Br) (hT : T.length ≤ 1000000) :
  pureCall E.P (L E) 58 [lst false (intE.vals A), .agg ⟨p.cells⟩, lst false (brR.vals T)] = some (.tuple ⟨tightV (Cp.tight (prQ p.q) A T)⟩) := by
 have lT : ∀ h, lenT .sl h (lst false (brR.vals T)) = some (.int .i64 T.length) := fun h => Rec.o_len (R := brR) (k := some false) Rec.ok_some
 have lp : ∀ t, loadT ⟨some true, some 4⟩ (AObj.cells 26 p.cells 0 :: t) (.pointer (some ⟨0, 0, none⟩)) = some (.agg ⟨p.cells⟩) := fun t => obj_all (b := 0) rfl rfl
 rw [pureCall_fn F58 rfl]
 by_cases h4 : 4000 < T.length
 ·have h4' : (4000 : Int) < T.length := by omega
  have e : Cp.tight (prQ p.q) A T = none := by unfold Cp.tight; rw [if_pos h4]
  rw [e]
  generalize lst false (brR.vals T) = TV at *
  simp -implicitDefEqProofs [r58, p58, lT, h4', tightV]
 have h4' : ¬ ((4000 : Int) < T.length) := by omega
 have wb := w_build p A T
 have nc := w_newc p (lst false (intE.vals A)) (lst false (brR.vals T))
 obtain ⟨m, ai, oi, bi, r, j1, _, j3⟩ := ndN p hp hv A hA12 hin T (by omega) A.length (root (prQ p.q) A) none 0 [] (Nat.le_refl _) ⟨rfl, fun u hu => by cases hu⟩ Enc.ok_nil rfl
 have r : L E 72 [.pointer (some ⟨1, 0, none⟩), .slice none 0 0] (wH p (lst false (intE.vals A)) (lst false (brR.vals T)) 0 [] false) 0 = _ := r
 have q6 := fun a o b => w6 (p := p) (av := lst false (intE.vals A)) (tv := lst false (brR.vals T)) (at_ := a) (out := o) (bad := b)
 have q7 := fun a o b => w7 (p := p) (av := lst false (intE.vals A)) (tv := lst false (brR.vals T)) (at_ := a) (out := o) (bad := b)
 have q8 := fun a o b => w8 (p := p) (av := lst false (intE.vals A)) (tv := lst false (brR.vals T)) (at_ := a) (out := o) (bad := b)
 have rf : ∀ o a b, reify E.P 8 (wH p (lst false (intE.vals A)) (lst false (brR.vals T)) a o b) (brR.sl 2 o) = some (lst false (brR.vals o)) := fun o a b => Rec.reify_row (R := brR) (n := 7) rfl sB2 aB2
 have et : Cp.tight (prQ p.q) A T = (match prv (prQ p.q) A.length (root (prQ p.q) A) T with | none => none | some x => if x.2.2 = [] then some x.2.1 else none) := by
  unfold Cp.tight
  rw [if_neg h4]
  cases prv (prQ p.q) A.length (root (prQ p.q) A) T <;> rfl
 rw [et]
 generalize lst false (intE.vals A) = AV at *
 generalize lst false (brR.vals T) = TV at *
 have rc : retCall E (L E) 0 false 72 [.pointer (some ⟨1, 0, none⟩), .slice none 0 0] (wH p AV TV 0 [] false) = some (.int .i64 m, wH p AV TV ai oi bi) := by
  rw [ret3t m72, r, Option.map_some]
  show some (_, trim 3 _ _) = _
  rw [wH_trim]
 rw [List.drop_zero] at j3
 cases hpv : prv (prQ p.q) A.length (root (prQ p.q) A) T with
 | none =>
  rw [hpv] at j3
  have j3 : bi = true := j3
  subst j3
  simp -implicitDefEqProofs [r58, p58, lT, h4', lp, wb, prep_newc, nc, rc, rop_nilT, nilP, q8, tightV]
 | some y =>
  rw [hpv] at j3
  obtain ⟨k1, _, k3, k4, k5⟩ := j3
  subst k1
  rw [List.nil_append] at k3
  by_cases hy : y.2.2 = []
  ·have hai : ai = T.length := by
    rw [hy] at k5
    have := congrArg List.length k5
    rw [List.length_drop] at this
    simp at this
    omega
   have hai' : (ai : Int) = (T.length : Int) := by omega
   simp only [hy, ↓reduceIte]
   rw [← k3]
   simp -implicitDefEqProofs [r58, p58, lT, h4', lp, wb, prep_newc, nc, rc, rop_nilT, nilP, q8, q6, q7, hai', rf, tightV]
  ·have hai' : ¬ (ai : Int) = (T.length : Int) := fun e => by
    apply hy
    rw [← k5, List.drop_eq_nil_of_le (by omega)]
   simp only [hy, ↓reduceIte]
   simp -implicitDefEqProofs [r58, p58, lT, h4', lp, wb, prep_newc, nc, rc, rop_nilT, nilP, q8, q6, hai', tightV]
theorem fitR_run {P : Rooms} {p : Pb} {A : List Int} (h : okA P p = some A) (c : List Int) : fitR p.q A c = (run (prQ p.q) (root (prQ p.q) A) c).isSome := by
 obtain ⟨h1, h2⟩ := okA_some h
 obtain ⟨k1, k2⟩ := areas_told h1
 rw [Cp.fit_eq]
 unfold Cp.fitS Cp.fits
 rw [h2, decide_eq_true k1, Cp.inA_iff.2 k2]
 cases hr : run (prQ p.q) (root (prQ p.q) A) c with
 | none => simp
 | some t =>
  have := (Cp.run_rem hr).2.2
  have e : (root (prQ p.q) A).rem = A := rfl
  rw [e] at this
  rw [decide_eq_true (show c.length ≤ A.length by omega)]; rfl
end Go.Proofs.Ytcnafncmfiogcaa.Bm
