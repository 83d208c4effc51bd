/-
  Chapter 26: the statement on proven bounds. Conditions: what the types say of the arguments.
-/
import Derived.Test.YtcnafncmfiogcaaQF27
import Derived.Test.YtcnafncmfiogcaaQF26
namespace Go.Proofs.Ytcnafncmfiogcaa.Bm
open Go Go.RowKit
open Rg (Rect areaL)
open Cp (Q Nd Br prQ validQ run root reach chk)
theorem neq_br (x y : Br) : aBin E.P .neq 41 (.agg ⟨[.int .i64 x.kids, .int .i64 x.bound]⟩) (.agg ⟨[.int .i64 y.kids, .int .i64 y.bound]⟩) = some (.bool (!decide (x = y))) := by
  rw [neqB]
  obtain ⟨a, b⟩ := x
  obtain ⟨c, d⟩ := y
  rw [show (a == c) = decide (a = c) from rfl, show (b == d) = decide (b = d) from rfl]
  by_cases h1 : a = c <;> by_cases h2 : b = d <;> simp [allOf, h1, h2]
theorem same_spec (k m : Option Bool) (l r : List Br) (hk : Rec.Ok k l) (hm : Rec.Ok m r) (hl : l.length ≤ 1000000) : pureCall E.P (L E) 29 [brR.o k l, brR.o m r] = some (.bool (decide (l = r))) := by
  have ll := fun h => Rec.o_len (R := brR) (h := h) hk
  have lr := fun h => Rec.o_len (R := brR) (h := h) hm
  have il := brV_index k l hk
  have ir := brV_index m r hm
  generalize brR.o k l = VL at *
  generalize brR.o m r = VR at *
  rw [pureCall_fn F29 rfl]
  by_cases hlen : l.length = r.length
  · simp -implicitDefEqProofs [r29, p29, ll, lr, hlen]
    rw [LL_for (γ := Unit) l () (fun i _ => [(5, .int .i64 i)]) (fun _ _ => []) (fun i rest _ => if eqG rest (r.drop i) then (.exit 0, [(5, undef)], []) else (.ret, [(4, .bool false), (5, undef)], [])) (fun _ _ => True) (by omega) trivial]
    · rw [List.drop_zero]
      by_cases q : l = r
      · subst q
        have h : eqG l l = true := decide_eq_true rfl
        simp -implicitDefEqProofs [k29_4, h]
      · have h : eqG l r = false := decide_eq_false q
        simp -implicitDefEqProofs [k29_4, h, q]
    · simp -implicitDefEqProofs [k29_4]
    · rfl
    · intro nx i c hi _
      have hd0 : eqG [] (r.drop i) = true := by rw [List.drop_eq_nil_of_le (by omega)]; rfl
      rw [hd0]
      simp -implicitDefEqProofs [r29_4, k29_4, ll, hi, hlen, trim_le]
    · intro nx i v rest c hi hv hd hw _ ih
      have ih := ih () trivial
      have hi' : i < r.length := by omega
      have hi2 : ((i : Int) < r.length) := by omega
      have x1 := il i hi
      have x2 := ir i hi'
      rw [hv] at x1
      have hrd : r.drop i = r[i] :: r.drop (i + 1) := List.drop_eq_getElem_cons hi'
      rw [hrd, eqG_cons]
      simp -implicitDefEqProofs [k29_4] at ih
      have nq := neq_br v r[i]
      by_cases he : v = r[i]
      · rw [decide_eq_true he] at nq
        simp -implicitDefEqProofs [r29_4, k29_4, ll, hi', hlen, x1, x2, nq, hw, decide_eq_true he, trim_le]
        exact ih
      · rw [decide_eq_false he] at nq
        simp -implicitDefEqProofs [r29_4, k29_4, ll, hi', hlen, x1, x2, nq, decide_eq_false he, trim_le]
  · have : ¬ l = r := fun e => hlen (by rw [e])
    have hlen' : ¬ ((l.length : Int) = r.length) := by omega
    simp -implicitDefEqProofs [r29, p29, ll, lr, hlen', this]
def duo : Rooms := [rm 4, rm 2]
def V2 : Value := lst true [lst true [.agg ⟨[.int .i64 0, .int .i64 0, .int .i64 4, .int .i64 1]⟩], lst true [.agg ⟨[.int .i64 0, .int .i64 0, .int .i64 2, .int .i64 1]⟩]]
theorem duo_ok : RoomsOk duo := ⟨fun r hr => by
    simp only [duo, rm, List.mem_cons, List.not_mem_nil, or_false] at hr
    rcases hr with rfl | rfl <;> exact Rec.ok_some, fun r hr => by
    simp only [duo, rm, List.mem_cons, List.not_mem_nil, or_false] at hr
    rcases hr with rfl | rfl <;> decide, by decide⟩
def p26a : Pb := ⟨1, none, [], 100, none, []⟩
def p26b : Pb := ⟨-1, none, [], 0, none, []⟩
theorem p26a_ok : PbOk p26a := ⟨fun _ => rfl, fun _ => rfl, by decide, by decide, by decide, by decide⟩
theorem p26b_ok : PbOk p26b := ⟨fun _ => rfl, fun _ => rfl, by decide, by decide, by decide, by decide⟩
theorem duo_a : okA duo p26a = some [4, 2] := by kernel_rfl
theorem duo_b : okA duo p26b = none := by kernel_rfl
abbrev BV (a b : Int) : Value := .agg ⟨[.int .i64 a, .int .i64 b]⟩
set_option maxRecDepth 100000 in
theorem roomN_spec (n : Int) : pureCall E.P (L E) 51 [.int .i64 n] = some (lst true [.agg ⟨[.int .i64 0, .int .i64 0, .int .i64 n, .int .i64 1]⟩]) := pureCall_le (evF_L 20) (by kernel_rfl)
theorem chk2 (c : List Int) (v : Int) (T : List Br) (x y : Bool) (n : Nat) (h : chk (prQ p26a.q) [4, 2] c v T = n) (hc : c.length ≤ 1000000) (hT : T.length ≤ 1000000) :
    pureCall E.P (L E) 30 [V2, .agg ⟨[.int .i64 1, .slice none 0 0, .int .i64 100, .slice none 0 0]⟩, lst x (intE.vals c), .int .i64 v, lst y (brR.vals T)] = some (.int .i64 (codeC n)) := by
  have := bCheck_spec true duo duo_ok p26a p26a_ok (some x) c Enc.ok_some hc v (some y) T Rec.ok_some hT
  rw [duo_a] at this
  rw [← h]
  exact this
theorem lit_b (h : Heap) (a b : Int) : buildSliceT (some ⟨41, 2, 16, .agg ⟨[.int .i64 0, .int .i64 0]⟩, ⟨some true, some 2⟩⟩) false h 1 #[(0, BV a b)] = some (lst true [BV a b], h) :=
  (build_lit' (n := 1) (l := [(0, BV a b)]) rfl rfl (by decide) (by decide) (by decide)).trans rfl
theorem lit_b3 (h : Heap) (a b c d e f : Int) : buildSliceT (some ⟨41, 2, 16, .agg ⟨[.int .i64 0, .int .i64 0]⟩, ⟨some true, some 2⟩⟩) false h 3 #[(0, BV a b), (1, BV c d), (2, BV e f)] = some (lst true [BV a b, BV c d, BV e f], h) :=
  (build_lit' (n := 3) (l := [(0, BV a b), (1, BV c d), (2, BV e f)]) rfl rfl (by decide) (by decide) (by decide)).trans rfl
theorem br_b1 (b : Int) : buildT (.fs ⟨[.int .i64 0, .int .i64 0]⟩ ⟨[(0, 1), (1, 1)]⟩) #[(1, .int .i64 b)] = some (BV 0 b) := rfl
theorem br_b2 (a b : Int) : buildT (.fs ⟨[.int .i64 0, .int .i64 0]⟩ ⟨[(0, 1), (1, 1)]⟩) #[(0, .int .i64 a), (1, .int .i64 b)] = some (BV a b) := rfl
theorem pb_b1 (a : Int) : buildT (.fs ⟨[.int .i64 0, .slice none 0 0, .int .i64 0, .slice none 0 0]⟩ ⟨[(0, 1), (1, 1), (2, 1), (3, 1)]⟩) #[(0, .int .i64 a)] = some (.agg ⟨[.int .i64 a, .slice none 0 0, .int .i64 0, .slice none 0 0]⟩) := rfl
theorem lit_rr (h : Heap) : buildSliceT (some elRs) false h 2 #[(0, lst true [.agg ⟨[.int .i64 0, .int .i64 0, .int .i64 4, .int .i64 1]⟩]), (1, lst true [.agg ⟨[.int .i64 0, .int .i64 0, .int .i64 2, .int .i64 1]⟩])] = some (V2, h) :=
  (build_lit' (n := 2) (l := [(0, lst true [.agg ⟨[.int .i64 0, .int .i64 0, .int .i64 4, .int .i64 1]⟩]), (1, lst true [.agg ⟨[.int .i64 0, .int .i64 0, .int .i64 2, .int .i64 1]⟩])]) rfl rfl (by decide) (by decide) (by decide)).trans rfl
theorem lit_i1 (h : Heap) (a : Int) : buildSliceT (some elInt) false h 1 #[(0, .int .i64 a)] = some (lst true [.int .i64 a], h) := lit_int h a
set_option maxHeartbeats 2000000 in
theorem small26_spec : pureCall E.P (L E) 24 [] = some (.bool true) := by
  have r4 := roomN_spec 4
  have r2 := roomN_spec 2
  have c1 : pureCall E.P (L E) 30 [V2, .agg ⟨[.int .i64 1, .slice none 0 0, .int .i64 100, .slice none 0 0]⟩, lst true [.int .i64 0, .int .i64 0], .int .i64 6, lst true [BV 1 6, BV 1 6, BV 0 6]] = some (.int .i64 0) := chk2 [0, 0] 6 [⟨1, 6⟩, ⟨1, 6⟩, ⟨0, 6⟩] true true 0 (by kernel_rfl) (by decide) (by decide)
  have c2 : pureCall E.P (L E) 30 [V2, .agg ⟨[.int .i64 1, .slice none 0 0, .int .i64 100, .slice none 0 0]⟩, lst true [.int .i64 0, .int .i64 0], .int .i64 5, lst true [BV 1 6, BV 1 6, BV 0 6]] = some (.int .i64 18) := chk2 [0, 0] 5 [⟨1, 6⟩, ⟨1, 6⟩, ⟨0, 6⟩] true true 1 (by kernel_rfl) (by decide) (by decide)
  have c3 : pureCall E.P (L E) 30 [V2, .agg ⟨[.int .i64 1, .slice none 0 0, .int .i64 100, .slice none 0 0]⟩, lst true [.int .i64 0], .int .i64 4, lst true [BV 1 6, BV 1 6, BV 0 6]] = some (.int .i64 19) := chk2 [0] 4 [⟨1, 6⟩, ⟨1, 6⟩, ⟨0, 6⟩] true true 2 (by kernel_rfl) (by decide) (by decide)
  have c4 : pureCall E.P (L E) 30 [V2, .agg ⟨[.int .i64 1, .slice none 0 0, .int .i64 100, .slice none 0 0]⟩, lst true [.int .i64 0, .int .i64 0], .int .i64 6, lst true [BV 0 6]] = some (.int .i64 0) := chk2 [0, 0] 6 [⟨0, 6⟩] true true 0 (by kernel_rfl) (by decide) (by decide)
  have c5 : pureCall E.P (L E) 30 [V2, .agg ⟨[.int .i64 1, .slice none 0 0, .int .i64 100, .slice none 0 0]⟩, lst true [.int .i64 0, .int .i64 0], .int .i64 6, lst true [BV 0 5]] = some (.int .i64 19) := chk2 [0, 0] 6 [⟨0, 5⟩] true true 2 (by kernel_rfl) (by decide) (by decide)
  have c6 : pureCall E.P (L E) 30 [V2, .agg ⟨[.int .i64 1, .slice none 0 0, .int .i64 100, .slice none 0 0]⟩, lst true [.int .i64 0, .int .i64 0], .int .i64 6, lst true [BV 1 6, BV 0 6, BV 0 6]] = some (.int .i64 19) := chk2 [0, 0] 6 [⟨1, 6⟩, ⟨0, 6⟩, ⟨0, 6⟩] true true 2 (by kernel_rfl) (by decide) (by decide)
  have c7 : pureCall E.P (L E) 30 [V2, .agg ⟨[.int .i64 (-1), .slice none 0 0, .int .i64 0, .slice none 0 0]⟩, lst true [.int .i64 0, .int .i64 0], .int .i64 6, lst true [BV 1 6, BV 1 6, BV 0 6]] = some (.int .i64 1) := by
    have := bCheck_spec true duo duo_ok p26b p26b_ok (some true) [0, 0] Enc.ok_some (by decide) 6 (some true) [⟨1, 6⟩, ⟨1, 6⟩, ⟨0, 6⟩] Rec.ok_some (by decide)
    rw [duo_b] at this
    exact this
  have rc : pureCall E.P (L E) 25 [V2, .agg ⟨[.int .i64 1, .slice none 0 0, .int .i64 100, .slice none 0 0]⟩, lst true [.int .i64 0]] = some (.tuple ⟨[.int .i64 6, .int .i64 0]⟩) := by
    have := bReach_spec true duo duo_ok p26a p26a_ok (some true) [0] Enc.ok_some (by decide)
    rw [duo_a] at this
    have e : reachV (prQ p26a.q) [4, 2] [0] = [.int .i64 6, .int .i64 0] := by kernel_rfl
    have this : pureCall E.P (L E) 25 [V2, .agg ⟨[.int .i64 1, .slice none 0 0, .int .i64 100, .slice none 0 0]⟩, lst true [.int .i64 0]] = some (.tuple ⟨reachV (prQ p26a.q) [4, 2] [0]⟩) := this
    rw [this, e]
  have tg : pureCall E.P (L E) 27 [V2, .agg ⟨[.int .i64 1, .slice none 0 0, .int .i64 100, .slice none 0 0]⟩, lst true [BV 1 6, BV 1 6, BV 0 6]] = some (.tuple ⟨[lst false [BV 1 6, BV 1 6, BV 0 6], .int .i64 0]⟩) := by
    have := bTighten_spec true duo duo_ok p26a p26a_ok (some true) [⟨1, 6⟩, ⟨1, 6⟩, ⟨0, 6⟩] Rec.ok_some (by decide)
    rw [duo_a] at this
    have e : Cp.tight (prQ p26a.q) [4, 2] [⟨1, 6⟩, ⟨1, 6⟩, ⟨0, 6⟩] = some [⟨1, 6⟩, ⟨1, 6⟩, ⟨0, 6⟩] := by kernel_rfl
    have this : pureCall E.P (L E) 27 [V2, .agg ⟨[.int .i64 1, .slice none 0 0, .int .i64 100, .slice none 0 0]⟩, lst true [BV 1 6, BV 1 6, BV 0 6]] = some (.tuple ⟨tightenV (Cp.tight (prQ p26a.q) [4, 2] [⟨1, 6⟩, ⟨1, 6⟩, ⟨0, 6⟩])⟩) := this
    rw [this, e]; rfl
  have sm : pureCall E.P (L E) 29 [lst false [BV 1 6, BV 1 6, BV 0 6], lst true [BV 1 6, BV 1 6, BV 0 6]] = some (.bool true) := same_spec (some false) (some true) [⟨1, 6⟩, ⟨1, 6⟩, ⟨0, 6⟩] [⟨1, 6⟩, ⟨1, 6⟩, ⟨0, 6⟩] Rec.ok_some Rec.ok_some (by decide)
  have sV : settled depth V2 = true := rfl
  have sI : ∀ z, settled depth (.int .i64 z) = true := fun z => rfl
  have sL : ∀ l, settled depth (lst true l) = true := fun l => rfl
  have rV : ∀ h, reify E.P 8 h V2 = some V2 := fun h => rfl
  rw [pureCall_fn F24 rfl]
  generalize hV : V2 = V at *
  have lrr := fun h => lit_rr h
  rw [hV] at lrr
  simp -implicitDefEqProofs [r24, p24, ret1 m51, r4, r2, lrr, pb_b2, pb_b1, sg2, br_b1, br_b2, lit_b, lit_b3, lit_i2, lit_i1, ret0 m25, ret1 m27, ret0 m30, ret0 m29, sV, sI, sL, rV, c1, c2, c3, c4, c5, c6, c7, rc, tg, sm]
end Go.Proofs.Ytcnafncmfiogcaa.Bm
namespace Go.Proofs.Ytcnafncmfiogcaa.Bm
open Go Go.RowKit
open Rg (Rect areaL)
open Cp (Q Nd Br prQ validQ run root reach chk best le2 lows)
inductive BestV (P : Rooms) (p : Pb) (V : List Value) : Prop
  | bad : okA P p = none → V = [.slice none 0 0, .int .i64 0, .slice none 0 0, .int .i64 1] → BestV P p V
  | full : (A : List Int) → okA P p = some A → best (prQ p.q) A = none → V = [.slice none 0 0, .int .i64 0, .slice none 0 0, .int .i64 6] → BestV P p V
  | ok : (A : List Int) → (v : Int) → (c : List Int) → (T : List Br) → (k : Option Bool) → okA P p = some A → best (prQ p.q) A = some (v, c, T) → Enc.Ok k c → V = [intE.o k c, .int .i64 v, lst false (brR.vals T), .int .i64 0] → BestV P p V
theorem best_v (P : Rooms) (hP : RoomsOk P) (p : Pb) (hp : PbOk p) : ∃ V, pureCall E.P (L E) 15 [roomsV false P, .agg ⟨p.cells⟩] = some (.tuple ⟨V⟩) ∧ BestV P p V := by
  cases ho : okA P p with
  | none => exact ⟨_, best_bad false P hP p hp (okA_none ho), .bad ho rfl⟩
  | some A =>
    obtain ⟨h1, h2⟩ := okA_some ho
    obtain ⟨k, hk, h3⟩ := best_ok false P hP p hp A h1 h2
    refine ⟨_, h3, ?_⟩
    cases hb : best (prQ p.q) A with
    | none => exact .full A ho hb rfl
    | some r =>
      obtain ⟨v, c, T⟩ := r
      exact .ok A v c T k ho hb (hk _ hb) rfl
theorem chk_tight {P : Cp.Pr} (hP : Cp.OnlyUs P) {A : List Int} (hA : ∀ a ∈ A, 0 ≤ a) (hm : 0 ≤ P.most) {v : Int} {c : List Int} {T l o : List Br} (h : best P A = some (v, c, T)) (ht : Cp.tight P A l = some o) (hl : lows l o = false) (hh : (o.headD ⟨0, 0⟩).bound = v) : chk P A c v l = 0 := by
  obtain ⟨⟨t, h1, h2⟩, _, _⟩ := Cp.best_told hP hA hm h
  unfold chk
  rw [h1, ht]
  simp only [h2, ↓reduceIte]
  rw [if_neg]
  rintro (k | k)
  · rw [hh] at k; omega
  · rw [hl] at k; cases k
theorem best_run {P : Cp.Pr} (hP : Cp.OnlyUs P) {A : List Int} (hA : ∀ a ∈ A, 0 ≤ a) (hm : 0 ≤ P.most) {v : Int} {c : List Int} {T : List Br} (h : best P A = some (v, c, T)) : c.length ≤ A.length ∧ T.length ≤ 4000 := by
  obtain ⟨⟨t, h1, _⟩, _, _⟩ := Cp.best_told hP hA hm h
  have := (Cp.run_rem h1).2.2
  have e : (root P A).rem = A := rfl
  rw [e] at this
  exact ⟨by omega, (Cp.best_sr h).1⟩
set_option maxHeartbeats 4000000 in
theorem tight26_law (P : Rooms) (p : Pb) (ha : Args P p) : ∃ h', L E 10 [roomsV false P, p.val] [] 0 = some (.bool true, h') := by
  have fw := ha.few false
  have sm := small26_spec
  have rr := rooms_reify false P
  have sr : settled depth (roomsV false P) = true := rfl
  have rcp : ∀ h, reifyC E.P 7 h p.cells = some p.cells := fun h => reifyC_set (pb_all p)
  have pe : p.val = .agg ⟨p.cells⟩ := rfl
  have ps : settled depth (.agg ⟨p.cells⟩) = true := p.set
  have lp : ∀ t, loadT ⟨some true, some 4⟩ (AObj.cells 26 p.cells 0 :: t) (.pointer (some ⟨0, 0, none⟩)) = some (.agg ⟨p.cells⟩) := fun t => obj_all (b := 0) rfl rfl
  rw [L_fn F10 rfl, pe]
  cases hF : fewB P p
  · rw [hF] at fw
    simp -implicitDefEqProofs [r10, p10, ret0 m24, sm, ret0 m13, rr, lp, rcp, fw]
  rw [hF] at fw
  obtain ⟨hPo, hp⟩ := ha.get hF
  obtain ⟨V, bv, hV⟩ := best_v P hPo p hp
  have sn : settled depth (.slice none 0 0) = true := rfl
  have tg := fun k T hk hT => bTighten_spec false P hPo p hp k T hk hT
  have ck := fun kc c hkc hc v k T hk hT => bCheck_spec false P hPo p hp kc c hkc hc v k T hk hT
  rw [pe] at tg ck
  cases hV with
  | bad ho hv =>
    subst hv
    have t1 := tg none [] (fun _ => rfl) (by decide)
    rw [ho] at t1
    have t1 : pureCall E.P (L E) 27 [roomsV false P, .agg ⟨p.cells⟩, .slice none 0 0] = some (.tuple ⟨[.slice none 0 0, .int .i64 1]⟩) := t1
    generalize roomsV false P = RV at *
    simp -implicitDefEqProofs [r10, p10, ret0 m24, sm, ret0 m13, rr, lp, rcp, fw, ret1 m15, sr, ps, bv, ret1 m27, sn, t1]
  | full A ho hb hv =>
    subst hv
    have t1 := tg none [] (fun _ => rfl) (by decide)
    have e : Cp.tight (prQ p.q) A [] = none := by
      unfold Cp.tight
      rw [if_neg (by decide), Cp.prv_nil]
    rw [ho] at t1
    have t1 : pureCall E.P (L E) 27 [roomsV false P, .agg ⟨p.cells⟩, .slice none 0 0] = some (.tuple ⟨tightenV (Cp.tight (prQ p.q) A [])⟩) := t1
    rw [e] at t1
    unfold tightenV at t1
    generalize roomsV false P = RV at *
    simp -implicitDefEqProofs [r10, p10, ret0 m24, sm, ret0 m13, rr, lp, rcp, fw, ret1 m15, sr, ps, bv, ret1 m27, sn, t1]
  | ok A v c T k ho hb hk hv =>
    subst hv
    obtain ⟨hA, hq, hA0, hm0⟩ := okA_bq hp ho
    obtain ⟨hcl, hTl⟩ := best_run (Cp.may_us (q := p.q)) hA0 hm0 hb
    have h13 := hA.len
    obtain ⟨o, kk, o', ht, hle, heq⟩ := Cp.tight_best (Cp.may_us (q := p.q)) hA0 hm0 hb
    obtain ⟨hol, hone⟩ := tight_len ht
    have ht2 := Cp.tight_again ht
    have hh : (o.headD ⟨0, 0⟩).bound = v := by rw [heq]; rfl
    have hck := chk_tight (Cp.may_us (q := p.q)) hA0 hm0 hb ht2 (Cp.lows_self o) hh
    have t1 := tg (some false) T Rec.ok_some (by omega)
    have t2 := tg (some false) o Rec.ok_some (by omega)
    rw [ho] at t1 t2
    have t1 : pureCall E.P (L E) 27 [roomsV false P, .agg ⟨p.cells⟩, lst false (brR.vals T)] = some (.tuple ⟨tightenV (Cp.tight (prQ p.q) A T)⟩) := t1
    have t2 : pureCall E.P (L E) 27 [roomsV false P, .agg ⟨p.cells⟩, lst false (brR.vals o)] = some (.tuple ⟨tightenV (Cp.tight (prQ p.q) A o)⟩) := t2
    rw [ht] at t1
    rw [ht2] at t2
    have t1 : pureCall E.P (L E) 27 [roomsV false P, .agg ⟨p.cells⟩, lst false (brR.vals T)] = some (.tuple ⟨[lst false (brR.vals o), .int .i64 0]⟩) := t1
    have t2 : pureCall E.P (L E) 27 [roomsV false P, .agg ⟨p.cells⟩, lst false (brR.vals o)] = some (.tuple ⟨[lst false (brR.vals o), .int .i64 0]⟩) := t2
    have c1 := ck k c hk (by omega) v (some false) o Rec.ok_some (by omega)
    rw [ho] at c1
    have c1 : pureCall E.P (L E) 30 [roomsV false P, .agg ⟨p.cells⟩, intE.o k c, .int .i64 v, lst false (brR.vals o)] = some (.int .i64 (codeC (chk (prQ p.q) A c v o))) := c1
    rw [hck] at c1
    have s1 : pureCall E.P (L E) 29 [lst false (brR.vals o), lst false (brR.vals o)] = some (.bool (decide (o = o))) := same_spec (some false) (some false) o o Rec.ok_some Rec.ok_some (by omega)
    rw [decide_eq_true rfl] at s1
    have lT : ∀ h, lenT .sl h (lst false (brR.vals T)) = some (.int .i64 T.length) := fun h => Rec.o_len (R := brR) (k := some false) Rec.ok_some
    have lO : ∀ h, lenT .sl h (lst false (brR.vals o)) = some (.int .i64 o.length) := fun h => Rec.o_len (R := brR) (k := some false) Rec.ok_some
    have iT : ∀ (i : Nat) (hi : i < T.length), indexAddrT (.sl 41 ⟨some true, some 2⟩) (lst false (brR.vals T)) (.int .i64 (i : Int)) = some (cptr (.agg ⟨[.int .i64 T[i].kids, .int .i64 T[i].bound]⟩)) := brV_index (some false) T Rec.ok_some
    have iO : ∀ (i : Nat) (hi : i < o.length), indexAddrT (.sl 41 ⟨some true, some 2⟩) (lst false (brR.vals o)) (.int .i64 (i : Int)) = some (cptr (.agg ⟨[.int .i64 o[i].kids, .int .i64 o[i].bound]⟩)) := brV_index (some false) o Rec.ok_some
    have sT : settled depth (lst false (brR.vals T)) = true := rfl
    have sO : settled depth (lst false (brR.vals o)) = true := rfl
    have rO : ∀ h, reify E.P 8 h (lst false (brR.vals o)) = some (lst false (brR.vals o)) := fun h => rfl
    have rC : ∀ h, reify E.P 8 h (intE.o k c) = some (intE.o k c) := fun h => Enc.o_reify
    have h0 : 0 < o.length := List.length_pos_iff.2 hone
    have i0 : indexAddrT (.sl 41 ⟨some true, some 2⟩) (lst false (brR.vals o)) (.int .i64 0) = some (cptr (.agg ⟨[.int .i64 o[0].kids, .int .i64 o[0].bound]⟩)) := iO 0 h0
    have hb0 : o[0].bound = v := by
      have e0 : o.headD ⟨0, 0⟩ = o[0] := by
        cases o with
        | nil => exact absurd rfl hone
        | cons a l => rfl
      rw [← e0]; exact hh
    rw [hb0] at i0
    have hTne : T ≠ [] := fun e => by rw [e] at hol; exact hone (List.eq_nil_of_length_eq_zero hol)
    have hoT : (o.length : Int) = T.length := by omega
    have bT : ∀ d n, below (d + 1) n (lst false (brR.vals T)) = true := fun d n => rfl
    generalize lst false (brR.vals T) = TV at *
    generalize lst false (brR.vals o) = OV at *
    generalize intE.o k c = CV at *
    generalize roomsV false P = RV at *
    simp -implicitDefEqProofs [r10, p10, ret0 m24, sm, ret0 m13, rr, lp, rcp, fw, ret1 m15, sr, ps, bv, ret1 m27, sT, t1, lT, lO, hTne, hoT]
    rw [LL_for (γ := Unit) o () (fun i _ => [(12, .int .i64 i)]) (fun _ _ => [AObj.cells 26 p.cells 0])
      (fun _ _ _ => (.exit 0, [(12, undef)], [AObj.cells 26 p.cells 0])) (fun _ _ => True) (by omega) trivial]
    · simp -implicitDefEqProofs [k10_11, ret0 m30, ret0 m29, ret1 m27, rr, sr, ps, lp, rcp, sO, t2, i0, rO, rC, c1, s1, codeC]
    · simp -implicitDefEqProofs [k10_11]
    · rfl
    · intro nx i _ hi _
      simp -implicitDefEqProofs [r10_11, k10_11, lO, hi, trim_le]
    · intro nx i w rest _ hi hw hd hwi _ ih
      have ih := ih () trivial
      have hi' : (i : Int) < (o.length : Int) := by omega
      have xo := iO i hi
      rw [hw] at xo
      have hiT : i < T.length := by omega
      have xt := iT i hiT
      obtain ⟨g1, g2⟩ := Cp.le2_get hle i hiT hi
      rw [hw] at g1 g2
      have g2' : ¬ (T[i].bound < w.bound) := by omega
      rw [g1] at xt
      simp -implicitDefEqProofs [k10_11] at ih
      simp -implicitDefEqProofs [r10_11, k10_11, lO, hi', xo, xt, g2', hwi, trim_le]
      exact ih
end Go.Proofs.Ytcnafncmfiogcaa.Bm
