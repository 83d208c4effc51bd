/-
  Chapter 26: the statement that what is accepted is true, walked. Conditions: what the types say of the arguments.
-/
import Derived.Test.YtcnafncmfiogcaaQH26
import Derived.Test.YtcnafncmfiogcaaQH25
import Derived.Test.YtcnafncmfiogcaaQH22
namespace Go.Proofs.Ytcnafncmfiogcaa.Bm
open Go Go.RowKit
open Rg (Rect areaL)
open Cp (Q Nd Br prQ validQ run root reach chk)
theorem neq_br (x y : Br) : aBin E.P .neq 41 (.agg ⟨[.int .i64 x.kids, .int .i64 x.bound]⟩) (.agg ⟨[.int .i64 y.kids, .int .i64 y.bound]⟩) = some (.bool (!decide (x = y))) := by
  rw [neqB]
  obtain ⟨a, b⟩ := x
  obtain ⟨c, d⟩ := y
  rw [show (a == c) = decide (a = c) from rfl, show (b == d) = decide (b = d) from rfl]
  by_cases h1 : a = c <;> by_cases h2 : b = d <;> simp [allOf, h1, h2]
theorem same_spec (k m : Option Bool) (l r : List Br) (hk : Rec.Ok k l) (hm : Rec.Ok m r) (hl : l.length ≤ 1000000) : pureCall E.P (L E) 29 [brR.o k l, brR.o m r] = some (.bool (decide (l = r))) := by
  have ll := fun h => Rec.o_len (R := brR) (h := h) hk
  have lr := fun h => Rec.o_len (R := brR) (h := h) hm
  have il := brV_index k l hk
  have ir := brV_index m r hm
  generalize brR.o k l = VL at *
  generalize brR.o m r = VR at *
  rw [pureCall_fn F29 rfl]
  by_cases hlen : l.length = r.length
  · simp -implicitDefEqProofs [r29, p29, ll, lr, hlen]
    rw [LL_for (γ := Unit) l () (fun i _ => [(5, .int .i64 i)]) (fun _ _ => []) (fun i rest _ => if eqG rest (r.drop i) then (.exit 0, [(5, undef)], []) else (.ret, [(4, .bool false), (5, undef)], [])) (fun _ _ => True) (by omega) trivial]
    · rw [List.drop_zero]
      by_cases q : l = r
      · subst q
        have h : eqG l l = true := decide_eq_true rfl
        simp -implicitDefEqProofs [k29_4, h]
      · have h : eqG l r = false := decide_eq_false q
        simp -implicitDefEqProofs [k29_4, h, q]
    · simp -implicitDefEqProofs [k29_4]
    · rfl
    · intro nx i c hi _
      have hd0 : eqG [] (r.drop i) = true := by rw [List.drop_eq_nil_of_le (by omega)]; rfl
      rw [hd0]
      simp -implicitDefEqProofs [r29_4, k29_4, ll, hi, hlen, trim_le]
    · intro nx i v rest c hi hv hd hw _ ih
      have ih := ih () trivial
      have hi' : i < r.length := by omega
      have hi2 : ((i : Int) < r.length) := by omega
      have x1 := il i hi
      have x2 := ir i hi'
      rw [hv] at x1
      have hrd : r.drop i = r[i] :: r.drop (i + 1) := List.drop_eq_getElem_cons hi'
      rw [hrd, eqG_cons]
      simp -implicitDefEqProofs [k29_4] at ih
      have nq := neq_br v r[i]
      by_cases he : v = r[i]
      · rw [decide_eq_true he] at nq
        simp -implicitDefEqProofs [r29_4, k29_4, ll, hi', hlen, x1, x2, nq, hw, decide_eq_true he, trim_le]
        exact ih
      · rw [decide_eq_false he] at nq
        simp -implicitDefEqProofs [r29_4, k29_4, ll, hi', hlen, x1, x2, nq, decide_eq_false he, trim_le]
  · have : ¬ l = r := fun e => hlen (by rw [e])
    have hlen' : ¬ ((l.length : Int) = r.length) := by omega
    simp -implicitDefEqProofs [r29, p29, ll, lr, hlen', this]
def duo : Rooms := [rm 4, rm 2]
def V2 : Value := lst true [lst true [.agg ⟨[.int .i64 0, .int .i64 0, .int .i64 4, .int .i64 1]⟩], lst true [.agg ⟨[.int .i64 0, .int .i64 0, .int .i64 2, .int .i64 1]⟩]]
theorem duo_ok : RoomsOk duo := ⟨fun r hr => by
    simp only [duo, rm, List.mem_cons, List.not_mem_nil, or_false] at hr
    rcases hr with rfl | rfl <;> exact Rec.ok_some, fun r hr => by
    simp only [duo, rm, List.mem_cons, List.not_mem_nil, or_false] at hr
    rcases hr with rfl | rfl <;> decide, by decide⟩
def p26a : Pb := ⟨1, none, [], 100, none, []⟩
def p26b : Pb := ⟨-1, none, [], 0, none, []⟩
theorem p26a_ok : PbOk p26a := ⟨fun _ => rfl, fun _ => rfl, by decide, by decide, by decide, by decide⟩
theorem p26b_ok : PbOk p26b := ⟨fun _ => rfl, fun _ => rfl, by decide, by decide, by decide, by decide⟩
theorem duo_a : okA duo p26a = some [4, 2] := by kernel_rfl
theorem duo_b : okA duo p26b = none := by kernel_rfl
abbrev BV (a b : Int) : Value := .agg ⟨[.int .i64 a, .int .i64 b]⟩
set_option maxRecDepth 100000 in
theorem roomN_spec (n : Int) : pureCall E.P (L E) 51 [.int .i64 n] = some (lst true [.agg ⟨[.int .i64 0, .int .i64 0, .int .i64 n, .int .i64 1]⟩]) := pureCall_le (evF_L 20) (by kernel_rfl)
theorem chk2 (c : List Int) (v : Int) (T : List Br) (x y : Bool) (n : Nat) (h : chk (prQ p26a.q) [4, 2] c v T = n) (hc : c.length ≤ 1000000) (hT : T.length ≤ 1000000) :
    pureCall E.P (L E) 30 [V2, .agg ⟨[.int .i64 1, .slice none 0 0, .int .i64 100, .slice none 0 0]⟩, lst x (intE.vals c), .int .i64 v, lst y (brR.vals T)] = some (.int .i64 (codeC n)) := by
  have := bCheck_spec true duo duo_ok p26a p26a_ok (some x) c Enc.ok_some hc v (some y) T Rec.ok_some hT
  rw [duo_a] at this
  rw [← h]
  exact this
theorem lit_b (h : Heap) (a b : Int) : buildSliceT (some ⟨41, 2, 16, .agg ⟨[.int .i64 0, .int .i64 0]⟩, ⟨some true, some 2⟩⟩) false h 1 #[(0, BV a b)] = some (lst true [BV a b], h) :=
  (build_lit' (n := 1) (l := [(0, BV a b)]) rfl rfl (by decide) (by decide) (by decide)).trans rfl
theorem lit_b3 (h : Heap) (a b c d e f : Int) : buildSliceT (some ⟨41, 2, 16, .agg ⟨[.int .i64 0, .int .i64 0]⟩, ⟨some true, some 2⟩⟩) false h 3 #[(0, BV a b), (1, BV c d), (2, BV e f)] = some (lst true [BV a b, BV c d, BV e f], h) :=
  (build_lit' (n := 3) (l := [(0, BV a b), (1, BV c d), (2, BV e f)]) rfl rfl (by decide) (by decide) (by decide)).trans rfl
theorem br_b1 (b : Int) : buildT (.fs ⟨[.int .i64 0, .int .i64 0]⟩ ⟨[(0, 1), (1, 1)]⟩) #[(1, .int .i64 b)] = some (BV 0 b) := rfl
theorem br_b2 (a b : Int) : buildT (.fs ⟨[.int .i64 0, .int .i64 0]⟩ ⟨[(0, 1), (1, 1)]⟩) #[(0, .int .i64 a), (1, .int .i64 b)] = some (BV a b) := rfl
theorem pb_b1 (a : Int) : buildT (.fs ⟨[.int .i64 0, .slice none 0 0, .int .i64 0, .slice none 0 0]⟩ ⟨[(0, 1), (1, 1), (2, 1), (3, 1)]⟩) #[(0, .int .i64 a)] = some (.agg ⟨[.int .i64 a, .slice none 0 0, .int .i64 0, .slice none 0 0]⟩) := rfl
theorem lit_rr (h : Heap) : buildSliceT (some elRs) false h 2 #[(0, lst true [.agg ⟨[.int .i64 0, .int .i64 0, .int .i64 4, .int .i64 1]⟩]), (1, lst true [.agg ⟨[.int .i64 0, .int .i64 0, .int .i64 2, .int .i64 1]⟩])] = some (V2, h) :=
  (build_lit' (n := 2) (l := [(0, lst true [.agg ⟨[.int .i64 0, .int .i64 0, .int .i64 4, .int .i64 1]⟩]), (1, lst true [.agg ⟨[.int .i64 0, .int .i64 0, .int .i64 2, .int .i64 1]⟩])]) rfl rfl (by decide) (by decide) (by decide)).trans rfl
theorem lit_i1 (h : Heap) (a : Int) : buildSliceT (some elInt) false h 1 #[(0, .int .i64 a)] = some (lst true [.int .i64 a], h) := lit_int h a
set_option maxHeartbeats 2000000 in
theorem small26_spec : pureCall E.P (L E) 24 [] = some (.bool true) := by
  have r4 := roomN_spec 4
  have r2 := roomN_spec 2
  have c1 : pureCall E.P (L E) 30 [V2, .agg ⟨[.int .i64 1, .slice none 0 0, .int .i64 100, .slice none 0 0]⟩, lst true [.int .i64 0, .int .i64 0], .int .i64 6, lst true [BV 1 6, BV 1 6, BV 0 6]] = some (.int .i64 0) := chk2 [0, 0] 6 [⟨1, 6⟩, ⟨1, 6⟩, ⟨0, 6⟩] true true 0 (by kernel_rfl) (by decide) (by decide)
  have c2 : pureCall E.P (L E) 30 [V2, .agg ⟨[.int .i64 1, .slice none 0 0, .int .i64 100, .slice none 0 0]⟩, lst true [.int .i64 0, .int .i64 0], .int .i64 5, lst true [BV 1 6, BV 1 6, BV 0 6]] = some (.int .i64 18) := chk2 [0, 0] 5 [⟨1, 6⟩, ⟨1, 6⟩, ⟨0, 6⟩] true true 1 (by kernel_rfl) (by decide) (by decide)
  have c3 : pureCall E.P (L E) 30 [V2, .agg ⟨[.int .i64 1, .slice none 0 0, .int .i64 100, .slice none 0 0]⟩, lst true [.int .i64 0], .int .i64 4, lst true [BV 1 6, BV 1 6, BV 0 6]] = some (.int .i64 19) := chk2 [0] 4 [⟨1, 6⟩, ⟨1, 6⟩, ⟨0, 6⟩] true true 2 (by kernel_rfl) (by decide) (by decide)
  have c4 : pureCall E.P (L E) 30 [V2, .agg ⟨[.int .i64 1, .slice none 0 0, .int .i64 100, .slice none 0 0]⟩, lst true [.int .i64 0, .int .i64 0], .int .i64 6, lst true [BV 0 6]] = some (.int .i64 0) := chk2 [0, 0] 6 [⟨0, 6⟩] true true 0 (by kernel_rfl) (by decide) (by decide)
  have c5 : pureCall E.P (L E) 30 [V2, .agg ⟨[.int .i64 1, .slice none 0 0, .int .i64 100, .slice none 0 0]⟩, lst true [.int .i64 0, .int .i64 0], .int .i64 6, lst true [BV 0 5]] = some (.int .i64 19) := chk2 [0, 0] 6 [⟨0, 5⟩] true true 2 (by kernel_rfl) (by decide) (by decide)
  have c6 : pureCall E.P (L E) 30 [V2, .agg ⟨[.int .i64 1, .slice none 0 0, .int .i64 100, .slice none 0 0]⟩, lst true [.int .i64 0, .int .i64 0], .int .i64 6, lst true [BV 1 6, BV 0 6, BV 0 6]] = some (.int .i64 19) := chk2 [0, 0] 6 [⟨1, 6⟩, ⟨0, 6⟩, ⟨0, 6⟩] true true 2 (by kernel_rfl) (by decide) (by decide)
  have c7 : pureCall E.P (L E) 30 [V2, .agg ⟨[.int .i64 (-1), .slice none 0 0, .int .i64 0, .slice none 0 0]⟩, lst true [.int .i64 0, .int .i64 0], .int .i64 6, lst true [BV 1 6, BV 1 6, BV 0 6]] = some (.int .i64 1) := by
    have := bCheck_spec true duo duo_ok p26b p26b_ok (some true) [0, 0] Enc.ok_some (by decide) 6 (some true) [⟨1, 6⟩, ⟨1, 6⟩, ⟨0, 6⟩] Rec.ok_some (by decide)
    rw [duo_b] at this
    exact this
  have rc : pureCall E.P (L E) 25 [V2, .agg ⟨[.int .i64 1, .slice none 0 0, .int .i64 100, .slice none 0 0]⟩, lst true [.int .i64 0]] = some (.tuple ⟨[.int .i64 6, .int .i64 0]⟩) := by
    have := bReach_spec true duo duo_ok p26a p26a_ok (some true) [0] Enc.ok_some (by decide)
    rw [duo_a] at this
    have e : reachV (prQ p26a.q) [4, 2] [0] = [.int .i64 6, .int .i64 0] := by kernel_rfl
    have this : pureCall E.P (L E) 25 [V2, .agg ⟨[.int .i64 1, .slice none 0 0, .int .i64 100, .slice none 0 0]⟩, lst true [.int .i64 0]] = some (.tuple ⟨reachV (prQ p26a.q) [4, 2] [0]⟩) := this
    rw [this, e]
  have tg : pureCall E.P (L E) 27 [V2, .agg ⟨[.int .i64 1, .slice none 0 0, .int .i64 100, .slice none 0 0]⟩, lst true [BV 1 6, BV 1 6, BV 0 6]] = some (.tuple ⟨[lst false [BV 1 6, BV 1 6, BV 0 6], .int .i64 0]⟩) := by
    have := bTighten_spec true duo duo_ok p26a p26a_ok (some true) [⟨1, 6⟩, ⟨1, 6⟩, ⟨0, 6⟩] Rec.ok_some (by decide)
    rw [duo_a] at this
    have e : Cp.tight (prQ p26a.q) [4, 2] [⟨1, 6⟩, ⟨1, 6⟩, ⟨0, 6⟩] = some [⟨1, 6⟩, ⟨1, 6⟩, ⟨0, 6⟩] := by kernel_rfl
    have this : pureCall E.P (L E) 27 [V2, .agg ⟨[.int .i64 1, .slice none 0 0, .int .i64 100, .slice none 0 0]⟩, lst true [BV 1 6, BV 1 6, BV 0 6]] = some (.tuple ⟨tightenV (Cp.tight (prQ p26a.q) [4, 2] [⟨1, 6⟩, ⟨1, 6⟩, ⟨0, 6⟩])⟩) := this
    rw [this, e]; rfl
  have sm : pureCall E.P (L E) 29 [lst false [BV 1 6, BV 1 6, BV 0 6], lst true [BV 1 6, BV 1 6, BV 0 6]] = some (.bool true) := same_spec (some false) (some true) [⟨1, 6⟩, ⟨1, 6⟩, ⟨0, 6⟩] [⟨1, 6⟩, ⟨1, 6⟩, ⟨0, 6⟩] Rec.ok_some Rec.ok_some (by decide)
  have sV : settled depth V2 = true := rfl
  have sI : ∀ z, settled depth (.int .i64 z) = true := fun z => rfl
  have sL : ∀ l, settled depth (lst true l) = true := fun l => rfl
  have rV : ∀ h, reify E.P 8 h V2 = some V2 := fun h => rfl
  rw [pureCall_fn F24 rfl]
  generalize hV : V2 = V at *
  have lrr := fun h => lit_rr h
  rw [hV] at lrr
  simp -implicitDefEqProofs [r24, p24, ret1 m51, r4, r2, lrr, pb_b2, pb_b1, sg2, br_b1, br_b2, lit_b, lit_b3, lit_i2, lit_i1, ret0 m25, ret1 m27, ret0 m30, ret0 m29, sV, sI, sL, rV, c1, c2, c3, c4, c5, c6, c7, rc, tg, sm]
end Go.Proofs.Ytcnafncmfiogcaa.Bm
namespace Go.Proofs.Ytcnafncmfiogcaa.Bm
open Go Go.RowKit
open Rg (Rect areaL)
open Cp (Q Nd Br prQ validQ run root reach chk best le2 lows)
inductive BestV (P : Rooms) (p : Pb) (V : List Value) : Prop
  | bad : okA P p = none → V = [.slice none 0 0, .int .i64 0, .slice none 0 0, .int .i64 1] → BestV P p V
  | full : (A : List Int) → okA P p = some A → best (prQ p.q) A = none → V = [.slice none 0 0, .int .i64 0, .slice none 0 0, .int .i64 6] → BestV P p V
  | ok : (A : List Int) → (v : Int) → (c : List Int) → (T : List Br) → (k : Option Bool) → okA P p = some A → best (prQ p.q) A = some (v, c, T) → Enc.Ok k c → V = [intE.o k c, .int .i64 v, lst false (brR.vals T), .int .i64 0] → BestV P p V
end Go.Proofs.Ytcnafncmfiogcaa.Bm
namespace Go.Proofs.Ytcnafncmfiogcaa.Bm
open Go Go.RowKit
open Rg (Rect areaL)
open Cp (Q Nd Br prQ validQ run root reach chk best le2 lows prv forest conts kidsL)
end Go.Proofs.Ytcnafncmfiogcaa.Bm
namespace Go.Proofs.Ytcnafncmfiogcaa.Bm
open Go Go.RowKit
open Rg (Rect areaL)
open Cp (Q Nd Br prQ validQ run root reach chk best next us conts grF inA fitS)
theorem valF_min (A : List Int) (n : Nat) : valF A (min n A.length) = valF A n := by
  unfold valF
  by_cases h : n ≤ A.length
  · rw [Nat.min_eq_left h]
  · rw [Nat.min_eq_right (by omega), List.take_of_length_le (Nat.le_refl _), List.take_of_length_le (by omega)]
theorem value26_spec (ka kc : Option Bool) (A c : List Int) (hka : Enc.Ok ka A) (hkc : Enc.Ok kc c) (hA : AOk A) (hc : c.length ≤ 1000) : pureCall E.P (L E) 32 [intE.o ka A, intE.o kc c] = some (.int .i64 (valF A c.length)) := by
  have h13 := hA.len
  have lA := fun h => Enc.o_len (O := intE) (h := h) hka
  have lc := fun h => Enc.o_len (O := intE) (h := h) hkc
  have ix : ∀ (i : Nat) (hi : i < A.length), indexAddrT (.sl 3 ⟨some false, some 1⟩) (intE.o ka A) (.int .i64 (i : Int)) = some (cptr (.int .i64 A[i])) := fun i hi => Enc.index_o (O := intE) hka hi
  generalize intE.o ka A = VA at *
  generalize intE.o kc c = VC at *
  rw [pureCall_fn F32 rfl, ← valF_min A c.length]
  simp -implicitDefEqProofs [r32, p32]
  rw [LL_rec (α := Nat) 0 (fun i => [(5, .int .i64 (valF A i)), (6, .int .i64 (i : Int))]) (fun _ => []) (fun _ => (.exit 0, [(5, .int .i64 (valF A (min c.length A.length))), (6, undef)], [])) (fun i => i ≤ min c.length A.length) (fun i => min c.length A.length - i) (Nat.zero_le _)]
  · simp -implicitDefEqProofs [k32_3]
  · simp -implicitDefEqProofs [k32_3, valF]
  · rfl
  · intro nx i hi ih
    by_cases h1 : i < c.length
    · have h1' : (i : Int) < (c.length : Int) := by omega
      by_cases h2 : i < A.length
      · have h2' : (i : Int) < (A.length : Int) := by omega
        have ih := ih (i + 1) (by omega) (by omega)
        rw [valF_succ h2] at ih
        have hv := valF_le hA i
        have ha := hA.a _ (List.getElem_mem h2)
        have xi := ix i h2
        have w1 : IntKind.i64.wrap (valF A i + A[i]) = valF A i + A[i] := wrap64 (by omega) (by omega)
        have w2 : IntKind.i64.wrap ((i : Int) + 1) = ((i + 1 : Nat) : Int) := (wrap64 (by omega) (by omega)).trans (by omega)
        simp -implicitDefEqProofs [k32_3, -Int.natCast_add] at ih
        simp -implicitDefEqProofs [r32_3, k32_3, lc, lA, h1', h2', xi, w1, w2, trim_le, -Int.natCast_add]
        exact ih
      · have h2' : ¬ (i : Int) < (A.length : Int) := by omega
        have e : i = min c.length A.length := by omega
        rw [← e]
        simp -implicitDefEqProofs [r32_3, k32_3, lc, lA, h1', h2', trim_le]
    · have h1' : ¬ (i : Int) < (c.length : Int) := by omega
      have e : i = min c.length A.length := by omega
      rw [← e]
      simp -implicitDefEqProofs [r32_3, k32_3, lc, lA, h1', trim_le]
theorem Sq.fitS {q : Q} {A : List Int} {s : Nd} (h : Sq q A s) (hv : validQ q = true) (hA : A.length ≤ 12) (hi : inA A = true) (u : Int) : Cp.fitS q A (s.c ++ [u]) = (Cp.next (prQ q) s u).isSome := by
  rw [← Cp.fit_eq]; exact h.fit hv hA hi u
def foldG (P : Cp.Pr) (n : Nat) (l : List Nd) (m : Int) : Int := l.foldl (fun m t => max m (grF P n t)) m
set_option maxHeartbeats 4000000 in
theorem greatest_all (p : Pb) (hp : PbOk p) (hv : validQ p.q = true) (ka : Option Bool) (A : List Int) (hka : Enc.Ok ka A) (hA12 : A.length ≤ 12) (hin : inA A = true) : ∀ (n : Nat) (s : Nd) (kc : Option Bool), s.rem.length = n → Sq p.q A s → Enc.Ok kc s.c →
    pureCall E.P (L E) 33 [intE.o ka A, .agg ⟨p.cells⟩, intE.o kc s.c] = some (.int .i64 (grF (prQ p.q) n s)) := by
  have hAok : AOk A := ⟨by omega, fun a ha => by have := Cp.inA_iff.1 hin a ha; omega⟩
  intro n
  induction n with
  | zero =>
    intro s kc hn hs hkc
    obtain ⟨_, h2, h3⟩ := hs.told
    have vs := value26_spec ka kc A s.c hka hkc hAok (by omega)
    rw [← h2] at vs
    have lA := fun h => Enc.o_len (O := intE) (h := h) hka
    have lc := fun h => Enc.o_len (O := intE) (h := h) hkc
    have rA : ∀ h, reify E.P 8 h (intE.o ka A) = some (intE.o ka A) := fun h => Enc.o_reify
    have rC : ∀ h, reify E.P 8 h (intE.o kc s.c) = some (intE.o kc s.c) := fun h => Enc.o_reify
    have hlt : ¬ (s.c.length : Int) < (A.length : Int) := by omega
    generalize intE.o ka A = VA at *
    generalize intE.o kc s.c = VC at *
    show _ = some (Value.int .i64 s.v)
    rw [pureCall_fn F33 rfl]
    simp -implicitDefEqProofs [r33, p33, ret0 m32, rA, rC, vs]
    rw [LL_go]
    simp -implicitDefEqProofs [r33_3, k33_3, lA, lc, hlt, trim_le]
  | succ n ihn =>
    intro s kc hn hs hkc
    obtain ⟨h1, h2, h3⟩ := hs.told
    have vs := value26_spec ka kc A s.c hka hkc hAok (by omega)
    rw [← h2] at vs
    have lA := fun h => Enc.o_len (O := intE) (h := h) hka
    have lc := fun h => Enc.o_len (O := intE) (h := h) hkc
    have rA : ∀ h, reify E.P 8 h (intE.o ka A) = some (intE.o ka A) := fun h => Enc.o_reify
    have rC : ∀ h, reify E.P 8 h (intE.o kc s.c) = some (intE.o kc s.c) := fun h => Enc.o_reify
    have rcp : ∀ h, reifyC E.P 7 h p.cells = some p.cells := fun h => reifyC_set (pb_all p)
    have lp : ∀ t, loadT ⟨some true, some 4⟩ (AObj.cells 26 p.cells 0 :: t) (.pointer (some ⟨0, 0, none⟩)) = some (.agg ⟨p.cells⟩) := fun t => obj_all (b := 0) rfl rfl
    have hlt : (s.c.length : Int) < (A.length : Int) := by omega
    have bA : ∀ d m, below (d + 1) m (intE.o ka A) = true := fun d m => Enc.o_bel
    have bC : ∀ d m, below (d + 1) m (intE.o kc s.c) = true := fun d m => Enc.o_bel
    have bP := pb_bel p
    have nr := fun u => next_row [AObj.cells 26 p.cells 0] kc s.c hkc (by omega) u
    have fits := fun u (hu : 0 ≤ u ∧ u < 6) => fits_spec p hp ka A (s.c ++ [u]) false hka (by omega) (by simp only [List.length_append, List.length_cons, List.length_nil]; omega) (fun w hw => by
      rcases List.mem_append.1 hw with k | k
      · have := hs.us w k; omega
      · rw [List.mem_singleton.1 k]; omega)
    have rcs := fun t (hn' : t.rem.length = n) (ht : Sq p.q A t) => ihn t (some false) hn' ht Enc.ok_some
    generalize intE.o ka A = VA at *
    generalize intE.o kc s.c = VC at *
    have eg : grF (prQ p.q) (n + 1) s = foldG (prQ p.q) n (us.filterMap (next (prQ p.q) s)) s.v := rfl
    rw [eg, pureCall_fn F33 rfl]
    generalize hR : foldG (prQ p.q) n (us.filterMap (next (prQ p.q) s)) s.v = R
    simp -implicitDefEqProofs [r33, p33, ret0 m32, rA, rC, vs]
    rw [LL_rec (α := Nat × Int) (0, s.v) (fun a => [(7, .int .i64 a.2), (8, .int .i64 (a.1 : Int))]) (fun _ => [AObj.cells 26 p.cells 0]) (fun _ => (.exit 0, [(7, .int .i64 R), (8, undef)], [AObj.cells 26 p.cells 0])) (fun a => a.1 ≤ 6 ∧ foldG (prQ p.q) n ((us.drop a.1).filterMap (next (prQ p.q) s)) a.2 = R) (fun a => 6 - a.1) ⟨Nat.zero_le _, hR⟩]
    · simp -implicitDefEqProofs [k33_3]
    · simp -implicitDefEqProofs [k33_3]
    · rfl
    · intro nx a ha ihl
      obtain ⟨u, m⟩ := a
      obtain ⟨g1, g2⟩ := ha
      simp only at g1 g2 ihl ⊢
      by_cases hu6 : u < 6
      case neg =>
        have e6 : u = 6 := by omega
        subst e6
        have g2 : m = R := g2
        subst g2
        simp -implicitDefEqProofs [r33_3, k33_3, trim_le]
      have hu' : (u : Int) < 6 := by omega
      have wu : IntKind.i64.wrap ((u : Int) + 1) = ((u + 1 : Nat) : Int) := (wrap64 (by omega) (by omega)).trans (by omega)
      obtain ⟨x, h1', ap1, ap2⟩ := nr (u : Int)
      have fz := frz_row [AObj.cells 26 p.cells 0] (s.c ++ [(u : Int)]) (by simp) 0 (Nat.zero_le _)
      have fz : freezeV E.P depth 0 [AObj.cells 26 p.cells 0, intE.row 3 (s.c ++ [(u : Int)])] (Enc.sl 1 (s.c ++ [(u : Int)])) = some (lst false (intE.vals (s.c ++ [(u : Int)])), [AObj.cells 26 p.cells 0, AObj.dead]) := fz
      have ap2 : appendT (some elInt) h1' 0 false x (lst true (intE.vals [(u : Int)])) = some (Enc.sl 1 (s.c ++ [(u : Int)]), [AObj.cells 26 p.cells 0, intE.row 3 (s.c ++ [(u : Int)])]) := ap2
      have lin : ∀ h : Heap, buildSliceT (some ⟨3, 1, 8, .int .i64 0, ⟨some false, some 1⟩⟩) false h 1 #[(0, .int .i64 (u : Int))] = some (lst true (intE.vals [(u : Int)]), h) := fun h => lit_int h u
      have ft := fits (u : Int) ⟨by omega, by omega⟩
      rw [hs.fitS hv hA12 hin] at ft
      have ft : pureCall E.P (L E) 22 [VA, .agg ⟨p.cells⟩, lst false (intE.vals (s.c ++ [(u : Int)]))] = _ := ft
      have rn : ∀ h, reify E.P 8 h (lst false (intE.vals (s.c ++ [(u : Int)]))) = some (lst false (intE.vals (s.c ++ [(u : Int)]))) := fun h => rfl
      have bn : ∀ d m, below (d + 1) m (lst false (intE.vals (s.c ++ [(u : Int)]))) = true := fun d m => rfl
      rw [Cp.us_drop hu6] at g2
      cases hnx : next (prQ p.q) s (u : Int) with
      | none =>
        rw [hnx] at ft
        simp only [Option.isSome_none] at ft
        rw [List.filterMap_cons_none hnx] at g2
        have ihl := ihl (u + 1, m) (by show 6 - (u + 1) < 6 - u; omega) ⟨hu6, g2⟩
        simp -implicitDefEqProofs [k33_3, -Int.natCast_add] at ihl
        simp -implicitDefEqProofs [r33_3, k33_3, lA, lc, hlt, hu', lin, lit_none, ap1, ap2, prep_frz, fz, lp, ret0 m22, rA, rcp, rn, ft, wu, trim_cut, bA, bC, bP, -append_lst, -append_slice, -List.all_eq_true, -Int.natCast_add]
        exact ihl
      | some t =>
        rw [hnx] at ft
        simp only [Option.isSome_some] at ft
        rw [List.filterMap_cons_some hnx] at g2
        obtain ⟨hst, htc, htr⟩ := hs.next hnx
        have r1 := rcs t (by omega) hst
        rw [htc] at r1
        have r1 : pureCall E.P (L E) 33 [VA, .agg ⟨p.cells⟩, lst false (intE.vals (s.c ++ [(u : Int)]))] = _ := r1
        have mx := maxI m (grF (prQ p.q) n t)
        have g2 : foldG (prQ p.q) n ((us.drop (u + 1)).filterMap (next (prQ p.q) s)) (max m (grF (prQ p.q) n t)) = R := g2
        have ihl := ihl (u + 1, max m (grF (prQ p.q) n t)) (by show 6 - (u + 1) < 6 - u; omega) ⟨hu6, g2⟩
        generalize max m (grF (prQ p.q) n t) = mm at *
        simp -implicitDefEqProofs [k33_3, -Int.natCast_add] at ihl
        simp -implicitDefEqProofs [r33_3, k33_3, lA, lc, hlt, hu', lin, lit_none, ap1, ap2, prep_frz, fz, lp, ret0 m22, ret0 m33, rA, rcp, rn, ft, r1, mx, wu, trim_cut, bA, bC, bP, -append_lst, -append_slice, -List.all_eq_true, -Int.natCast_add]
        exact ihl
end Go.Proofs.Ytcnafncmfiogcaa.Bm
namespace Go.Proofs.Ytcnafncmfiogcaa.Bm
open Go Go.RowKit
open Rg (Rect areaL)
open Cp (Q Nd Br prQ validQ run root reach chk best next us conts grF inA fitS)
set_option maxHeartbeats 8000000 in
theorem true26_law (P : Rooms) (p : Pb) (c : List Int) (v : Int) (T : List Br) (ha : Args P p) (hc : c.length ≤ maxLen) (hcb : ∀ u ∈ c, -9223372036854775808 ≤ u ∧ u ≤ 9223372036854775807) (hT : T.length ≤ maxLen) :
    ∃ h', L E 8 [roomsV false P, p.val, intE.o (some false) c, .int .i64 v, lst false (brR.vals T)] [] 0 = some (.bool true, h') := by
  have fw := ha.few false
  have sm := small26_spec
  have rr := rooms_reify false P
  have sr : settled depth (roomsV false P) = true := rfl
  have rcp : ∀ h, reifyC E.P 7 h p.cells = some p.cells := fun h => reifyC_set (pb_all p)
  have pe : p.val = .agg ⟨p.cells⟩ := rfl
  have lp : ∀ t, loadT ⟨some true, some 4⟩ (AObj.cells 26 p.cells 0 :: t) (.pointer (some ⟨0, 0, none⟩)) = some (.agg ⟨p.cells⟩) := fun t => obj_all (b := 0) rfl rfl
  have lc := fun h => Enc.o_len (O := intE) (h := h) (k := some false) (l := c) Enc.ok_some
  have lT : ∀ h, lenT .sl h (lst false (brR.vals T)) = some (.int .i64 T.length) := fun h => Rec.o_len (R := brR) (k := some false) Rec.ok_some
  have rC : ∀ h, reify E.P 8 h (intE.o (some false) c) = some (intE.o (some false) c) := fun h => Enc.o_reify
  have rT : ∀ h, reify E.P 8 h (lst false (brR.vals T)) = some (lst false (brR.vals T)) := fun h => rfl
  rw [L_fn F8 rfl, pe]
  cases hF : fewB P p
  · rw [hF] at fw
    simp -implicitDefEqProofs [r8, p8, ret0 m24, sm, ret0 m13, rr, lp, rcp, fw]
  rw [hF] at fw
  obtain ⟨hPo, hp⟩ := ha.get hF
  by_cases q1 : 14 < c.length
  · have q1' : (14 : Int) < c.length := by omega
    generalize intE.o (some false) c = CV at *
    simp -implicitDefEqProofs [r8, p8, ret0 m24, sm, ret0 m13, rr, lp, rcp, fw, lc, q1']
  have q1' : ¬ (14 : Int) < c.length := by omega
  by_cases q2 : 300 < T.length
  · have q2' : (300 : Int) < T.length := by omega
    generalize intE.o (some false) c = CV at *
    generalize lst false (brR.vals T) = TV at *
    simp -implicitDefEqProofs [r8, p8, ret0 m24, sm, ret0 m13, rr, lp, rcp, fw, lc, lT, q1', q2']
  have q2' : ¬ (300 : Int) < T.length := by omega
  have ar := areas_call false P hPo
  have ck := bCheck_spec false P hPo p hp (some false) c Enc.ok_some (by omega) v (some false) T Rec.ok_some (by omega)
  obtain ⟨code, ck, cn, cs⟩ : ∃ code : Int, pureCall E.P (L E) 30 [roomsV false P, .agg ⟨p.cells⟩, intE.o (some false) c, .int .i64 v, lst false (brR.vals T)] = some (.int .i64 code) ∧ (okA P p = none → code = 1) ∧ ∀ A, okA P p = some A → code = codeC (chk (prQ p.q) A c v T) := by
    cases ho : okA P p with
    | none => rw [ho] at ck; exact ⟨1, ck, (fun _ => rfl), (fun A h => by cases h)⟩
    | some A => rw [ho] at ck; exact ⟨_, ck, (fun h => by cases h), (fun A h => by rw [Option.some.inj h])⟩
  cases hA : areasF (lists P) with
  | none =>
    rw [hA] at ar
    unfold areasV at ar
    generalize intE.o (some false) c = CV at *
    generalize lst false (brR.vals T) = TV at *
    generalize roomsV false P = RV at *
    simp -implicitDefEqProofs [r8, p8, ret0 m24, sm, ret0 m13, rr, lp, rcp, fw, lc, lT, q1', q2', ar]
  | some A =>
    rw [hA] at ar
    unfold areasV at ar
    have ar : ∀ h, retCall E (L E) 0 false 14 [roomsV false P] h = some (.tuple ⟨[lst false (intE.vals A), .int .i64 0]⟩, h) := ar
    have lA : ∀ h, lenT .sl h (lst false (intE.vals A)) = some (.int .i64 A.length) := fun h => Enc.o_len (O := intE) (k := some false) Enc.ok_some
    have rA : ∀ h, reify E.P 8 h (lst false (intE.vals A)) = some (lst false (intE.vals A)) := fun h => rfl
    by_cases q3 : 4 < A.length
    · have q3' : (4 : Int) < A.length := by omega
      generalize intE.o (some false) c = CV at *
      generalize lst false (brR.vals T) = TV at *
      generalize lst false (intE.vals A) = AV at *
      generalize roomsV false P = RV at *
      simp -implicitDefEqProofs [r8, p8, ret0 m24, sm, ret0 m13, rr, lp, rcp, fw, lc, lT, lA, q1', q2', q3', ar]
    have q3' : ¬ (4 : Int) < A.length := by omega
    by_cases hz : code = 0
    case neg =>
      generalize intE.o (some false) c = CV at *
      generalize lst false (brR.vals T) = TV at *
      generalize lst false (intE.vals A) = AV at *
      generalize roomsV false P = RV at *
      simp -implicitDefEqProofs [r8, p8, ret0 m24, sm, ret0 m13, rr, lp, rcp, fw, lc, lT, lA, q1', q2', q3', ar, ret0 m30, rC, rT, ck, hz]
    subst hz
    cases ho : okA P p with
    | none => exact absurd (cn ho) (by decide)
    | some A' =>
      have hcv : codeC (chk (prQ p.q) A' c v T) = 0 := (cs A' ho).symm
      obtain ⟨k1, hval⟩ := okA_some ho
      have eA : A' = A := Option.some.inj (k1.symm.trans hA)
      subst eA
      obtain ⟨hAk, hq, hA0, hm0⟩ := okA_bq hp ho
      have hus := Cp.may_us (q := p.q)
      have hchk : chk (prQ p.q) A' c v T = 0 := by
        generalize chk (prQ p.q) A' c v T = x at hcv
        match x, hcv with
        | 0, _ => rfl
        | 1, h => exact absurd h (by decide)
        | n + 2, h => exact absurd h (show ¬ (19 : Int) = 0 by decide)
      obtain ⟨⟨t, hrun, htv⟩, _⟩ := Cp.chk_true hus hA0 hm0 hchk
      have hgr := Cp.chk_gr hus hA0 hm0 hchk
      have htc := Cp.run_c hrun
      have htc : t.c = c := by rw [htc]; rfl
      have hsq : Sq p.q A' t := ⟨by rw [htc]; exact hrun, by rw [htc]; exact run_us hrun⟩
      obtain ⟨_, e2, e3⟩ := hsq.told
      rw [htc] at e2 e3
      have hin : inA A' = true := Cp.inA_iff.2 (areas_told hA).2
      have h12 := (areas_told hA).1
      have ft := fits_spec p hp (some false) A' c false Enc.ok_some (by omega) (by omega) hcb
      have efit : fitS p.q A' c = true := by
        unfold Cp.fitS Cp.fits
        rw [hrun, hval, hin, decide_eq_true h12, decide_eq_true (show c.length ≤ A'.length by omega)]; rfl
      rw [efit] at ft
      have ft : pureCall E.P (L E) 22 [lst false (intE.vals A'), .agg ⟨p.cells⟩, intE.o (some false) c] = some (.bool true) := ft
      have vs := value26_spec (some false) (some false) A' c Enc.ok_some Enc.ok_some hAk (by omega)
      rw [← e2, htv] at vs
      have vs : pureCall E.P (L E) 32 [lst false (intE.vals A'), intE.o (some false) c] = some (.int .i64 v) := vs
      have gr := greatest_all p hp hval (some false) A' Enc.ok_some h12 hin A'.length (root (prQ p.q) A') none rfl ⟨rfl, fun u hu => by cases hu⟩ Enc.ok_nil
      rw [hgr] at gr
      have gr : pureCall E.P (L E) 33 [lst false (intE.vals A'), .agg ⟨p.cells⟩, .slice none 0 0] = some (.int .i64 v) := gr
      generalize intE.o (some false) c = CV at *
      generalize lst false (brR.vals T) = TV at *
      generalize lst false (intE.vals A') = AV at *
      generalize roomsV false P = RV at *
      simp -implicitDefEqProofs [r8, p8, ret0 m24, sm, ret0 m13, rr, lp, rcp, fw, lc, lT, lA, q1', q2', q3', ar, ret0 m30, ret0 m22, ret0 m32, ret0 m33, rA, rC, rT, ck, ft, vs, gr]
end Go.Proofs.Ytcnafncmfiogcaa.Bm
