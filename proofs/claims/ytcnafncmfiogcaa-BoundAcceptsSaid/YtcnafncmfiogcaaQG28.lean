/-
  Chapter 26: the statement on what is accepted, walked. Conditions: what the types say of the arguments.
-/
import Derived.Test.YtcnafncmfiogcaaQG27
import Derived.Test.YtcnafncmfiogcaaQG26
import Derived.Test.YtcnafncmfiogcaaQG23
namespace Go.Proofs.Ytcnafncmfiogcaa.Bm
open Go Go.RowKit
open Rg (Rect areaL)
open Cp (Q Nd Br prQ validQ run root reach chk)
theorem neq_br (x y : Br) : aBin E.P .neq 41 (.agg ⟨[.int .i64 x.kids, .int .i64 x.bound]⟩) (.agg ⟨[.int .i64 y.kids, .int .i64 y.bound]⟩) = some (.bool (!decide (x = y))) := by
  rw [neqB]
  obtain ⟨a, b⟩ := x
  obtain ⟨c, d⟩ := y
  rw [show (a == c) = decide (a = c) from rfl, show (b == d) = decide (b = d) from rfl]
  by_cases h1 : a = c <;> by_cases h2 : b = d <;> simp [allOf, h1, h2]
theorem same_spec (k m : Option Bool) (l r : List Br) (hk : Rec.Ok k l) (hm : Rec.Ok m r) (hl : l.length ≤ 1000000) : pureCall E.P (L E) 29 [brR.o k l, brR.o m r] = some (.bool (decide (l = r))) := by
  have ll := fun h => Rec.o_len (R := brR) (h := h) hk
  have lr := fun h => Rec.o_len (R := brR) (h := h) hm
  have il := brV_index k l hk
  have ir := brV_index m r hm
  generalize brR.o k l = VL at *
  generalize brR.o m r = VR at *
  rw [pureCall_fn F29 rfl]
  by_cases hlen : l.length = r.length
  · simp -implicitDefEqProofs [r29, p29, ll, lr, hlen]
    rw [LL_for (γ := Unit) l () (fun i _ => [(5, .int .i64 i)]) (fun _ _ => []) (fun i rest _ => if eqG rest (r.drop i) then (.exit 0, [(5, undef)], []) else (.ret, [(4, .bool false), (5, undef)], [])) (fun _ _ => True) (by omega) trivial]
    · rw [List.drop_zero]
      by_cases q : l = r
      · subst q
        have h : eqG l l = true := decide_eq_true rfl
        simp -implicitDefEqProofs [k29_4, h]
      · have h : eqG l r = false := decide_eq_false q
        simp -implicitDefEqProofs [k29_4, h, q]
    · simp -implicitDefEqProofs [k29_4]
    · rfl
    · intro nx i c hi _
      have hd0 : eqG [] (r.drop i) = true := by rw [List.drop_eq_nil_of_le (by omega)]; rfl
      rw [hd0]
      simp -implicitDefEqProofs [r29_4, k29_4, ll, hi, hlen, trim_le]
    · intro nx i v rest c hi hv hd hw _ ih
      have ih := ih () trivial
      have hi' : i < r.length := by omega
      have hi2 : ((i : Int) < r.length) := by omega
      have x1 := il i hi
      have x2 := ir i hi'
      rw [hv] at x1
      have hrd : r.drop i = r[i] :: r.drop (i + 1) := List.drop_eq_getElem_cons hi'
      rw [hrd, eqG_cons]
      simp -implicitDefEqProofs [k29_4] at ih
      have nq := neq_br v r[i]
      by_cases he : v = r[i]
      · rw [decide_eq_true he] at nq
        simp -implicitDefEqProofs [r29_4, k29_4, ll, hi', hlen, x1, x2, nq, hw, decide_eq_true he, trim_le]
        exact ih
      · rw [decide_eq_false he] at nq
        simp -implicitDefEqProofs [r29_4, k29_4, ll, hi', hlen, x1, x2, nq, decide_eq_false he, trim_le]
  · have : ¬ l = r := fun e => hlen (by rw [e])
    have hlen' : ¬ ((l.length : Int) = r.length) := by omega
    simp -implicitDefEqProofs [r29, p29, ll, lr, hlen', this]
def duo : Rooms := [rm 4, rm 2]
def V2 : Value := lst true [lst true [.agg ⟨[.int .i64 0, .int .i64 0, .int .i64 4, .int .i64 1]⟩], lst true [.agg ⟨[.int .i64 0, .int .i64 0, .int .i64 2, .int .i64 1]⟩]]
theorem duo_ok : RoomsOk duo := ⟨fun r hr => by
    simp only [duo, rm, List.mem_cons, List.not_mem_nil, or_false] at hr
    rcases hr with rfl | rfl <;> exact Rec.ok_some, fun r hr => by
    simp only [duo, rm, List.mem_cons, List.not_mem_nil, or_false] at hr
    rcases hr with rfl | rfl <;> decide, by decide⟩
def p26a : Pb := ⟨1, none, [], 100, none, []⟩
def p26b : Pb := ⟨-1, none, [], 0, none, []⟩
theorem p26a_ok : PbOk p26a := ⟨fun _ => rfl, fun _ => rfl, by decide, by decide, by decide, by decide⟩
theorem p26b_ok : PbOk p26b := ⟨fun _ => rfl, fun _ => rfl, by decide, by decide, by decide, by decide⟩
theorem duo_a : okA duo p26a = some [4, 2] := by kernel_rfl
theorem duo_b : okA duo p26b = none := by kernel_rfl
abbrev BV (a b : Int) : Value := .agg ⟨[.int .i64 a, .int .i64 b]⟩
set_option maxRecDepth 100000 in
theorem roomN_spec (n : Int) : pureCall E.P (L E) 51 [.int .i64 n] = some (lst true [.agg ⟨[.int .i64 0, .int .i64 0, .int .i64 n, .int .i64 1]⟩]) := pureCall_le (evF_L 20) (by kernel_rfl)
theorem chk2 (c : List Int) (v : Int) (T : List Br) (x y : Bool) (n : Nat) (h : chk (prQ p26a.q) [4, 2] c v T = n) (hc : c.length ≤ 1000000) (hT : T.length ≤ 1000000) :
    pureCall E.P (L E) 30 [V2, .agg ⟨[.int .i64 1, .slice none 0 0, .int .i64 100, .slice none 0 0]⟩, lst x (intE.vals c), .int .i64 v, lst y (brR.vals T)] = some (.int .i64 (codeC n)) := by
  have := bCheck_spec true duo duo_ok p26a p26a_ok (some x) c Enc.ok_some hc v (some y) T Rec.ok_some hT
  rw [duo_a] at this
  rw [← h]
  exact this
theorem lit_b (h : Heap) (a b : Int) : buildSliceT (some ⟨41, 2, 16, .agg ⟨[.int .i64 0, .int .i64 0]⟩, ⟨some true, some 2⟩⟩) false h 1 #[(0, BV a b)] = some (lst true [BV a b], h) :=
  (build_lit' (n := 1) (l := [(0, BV a b)]) rfl rfl (by decide) (by decide) (by decide)).trans rfl
theorem lit_b3 (h : Heap) (a b c d e f : Int) : buildSliceT (some ⟨41, 2, 16, .agg ⟨[.int .i64 0, .int .i64 0]⟩, ⟨some true, some 2⟩⟩) false h 3 #[(0, BV a b), (1, BV c d), (2, BV e f)] = some (lst true [BV a b, BV c d, BV e f], h) :=
  (build_lit' (n := 3) (l := [(0, BV a b), (1, BV c d), (2, BV e f)]) rfl rfl (by decide) (by decide) (by decide)).trans rfl
theorem br_b1 (b : Int) : buildT (.fs ⟨[.int .i64 0, .int .i64 0]⟩ ⟨[(0, 1), (1, 1)]⟩) #[(1, .int .i64 b)] = some (BV 0 b) := rfl
theorem br_b2 (a b : Int) : buildT (.fs ⟨[.int .i64 0, .int .i64 0]⟩ ⟨[(0, 1), (1, 1)]⟩) #[(0, .int .i64 a), (1, .int .i64 b)] = some (BV a b) := rfl
theorem pb_b1 (a : Int) : buildT (.fs ⟨[.int .i64 0, .slice none 0 0, .int .i64 0, .slice none 0 0]⟩ ⟨[(0, 1), (1, 1), (2, 1), (3, 1)]⟩) #[(0, .int .i64 a)] = some (.agg ⟨[.int .i64 a, .slice none 0 0, .int .i64 0, .slice none 0 0]⟩) := rfl
theorem lit_rr (h : Heap) : buildSliceT (some elRs) false h 2 #[(0, lst true [.agg ⟨[.int .i64 0, .int .i64 0, .int .i64 4, .int .i64 1]⟩]), (1, lst true [.agg ⟨[.int .i64 0, .int .i64 0, .int .i64 2, .int .i64 1]⟩])] = some (V2, h) :=
  (build_lit' (n := 2) (l := [(0, lst true [.agg ⟨[.int .i64 0, .int .i64 0, .int .i64 4, .int .i64 1]⟩]), (1, lst true [.agg ⟨[.int .i64 0, .int .i64 0, .int .i64 2, .int .i64 1]⟩])]) rfl rfl (by decide) (by decide) (by decide)).trans rfl
theorem lit_i1 (h : Heap) (a : Int) : buildSliceT (some elInt) false h 1 #[(0, .int .i64 a)] = some (lst true [.int .i64 a], h) := lit_int h a
set_option maxHeartbeats 2000000 in
theorem small26_spec : pureCall E.P (L E) 24 [] = some (.bool true) := by
  have r4 := roomN_spec 4
  have r2 := roomN_spec 2
  have c1 : pureCall E.P (L E) 30 [V2, .agg ⟨[.int .i64 1, .slice none 0 0, .int .i64 100, .slice none 0 0]⟩, lst true [.int .i64 0, .int .i64 0], .int .i64 6, lst true [BV 1 6, BV 1 6, BV 0 6]] = some (.int .i64 0) := chk2 [0, 0] 6 [⟨1, 6⟩, ⟨1, 6⟩, ⟨0, 6⟩] true true 0 (by kernel_rfl) (by decide) (by decide)
  have c2 : pureCall E.P (L E) 30 [V2, .agg ⟨[.int .i64 1, .slice none 0 0, .int .i64 100, .slice none 0 0]⟩, lst true [.int .i64 0, .int .i64 0], .int .i64 5, lst true [BV 1 6, BV 1 6, BV 0 6]] = some (.int .i64 18) := chk2 [0, 0] 5 [⟨1, 6⟩, ⟨1, 6⟩, ⟨0, 6⟩] true true 1 (by kernel_rfl) (by decide) (by decide)
  have c3 : pureCall E.P (L E) 30 [V2, .agg ⟨[.int .i64 1, .slice none 0 0, .int .i64 100, .slice none 0 0]⟩, lst true [.int .i64 0], .int .i64 4, lst true [BV 1 6, BV 1 6, BV 0 6]] = some (.int .i64 19) := chk2 [0] 4 [⟨1, 6⟩, ⟨1, 6⟩, ⟨0, 6⟩] true true 2 (by kernel_rfl) (by decide) (by decide)
  have c4 : pureCall E.P (L E) 30 [V2, .agg ⟨[.int .i64 1, .slice none 0 0, .int .i64 100, .slice none 0 0]⟩, lst true [.int .i64 0, .int .i64 0], .int .i64 6, lst true [BV 0 6]] = some (.int .i64 0) := chk2 [0, 0] 6 [⟨0, 6⟩] true true 0 (by kernel_rfl) (by decide) (by decide)
  have c5 : pureCall E.P (L E) 30 [V2, .agg ⟨[.int .i64 1, .slice none 0 0, .int .i64 100, .slice none 0 0]⟩, lst true [.int .i64 0, .int .i64 0], .int .i64 6, lst true [BV 0 5]] = some (.int .i64 19) := chk2 [0, 0] 6 [⟨0, 5⟩] true true 2 (by kernel_rfl) (by decide) (by decide)
  have c6 : pureCall E.P (L E) 30 [V2, .agg ⟨[.int .i64 1, .slice none 0 0, .int .i64 100, .slice none 0 0]⟩, lst true [.int .i64 0, .int .i64 0], .int .i64 6, lst true [BV 1 6, BV 0 6, BV 0 6]] = some (.int .i64 19) := chk2 [0, 0] 6 [⟨1, 6⟩, ⟨0, 6⟩, ⟨0, 6⟩] true true 2 (by kernel_rfl) (by decide) (by decide)
  have c7 : pureCall E.P (L E) 30 [V2, .agg ⟨[.int .i64 (-1), .slice none 0 0, .int .i64 0, .slice none 0 0]⟩, lst true [.int .i64 0, .int .i64 0], .int .i64 6, lst true [BV 1 6, BV 1 6, BV 0 6]] = some (.int .i64 1) := by
    have := bCheck_spec true duo duo_ok p26b p26b_ok (some true) [0, 0] Enc.ok_some (by decide) 6 (some true) [⟨1, 6⟩, ⟨1, 6⟩, ⟨0, 6⟩] Rec.ok_some (by decide)
    rw [duo_b] at this
    exact this
  have rc : pureCall E.P (L E) 25 [V2, .agg ⟨[.int .i64 1, .slice none 0 0, .int .i64 100, .slice none 0 0]⟩, lst true [.int .i64 0]] = some (.tuple ⟨[.int .i64 6, .int .i64 0]⟩) := by
    have := bReach_spec true duo duo_ok p26a p26a_ok (some true) [0] Enc.ok_some (by decide)
    rw [duo_a] at this
    have e : reachV (prQ p26a.q) [4, 2] [0] = [.int .i64 6, .int .i64 0] := by kernel_rfl
    have this : pureCall E.P (L E) 25 [V2, .agg ⟨[.int .i64 1, .slice none 0 0, .int .i64 100, .slice none 0 0]⟩, lst true [.int .i64 0]] = some (.tuple ⟨reachV (prQ p26a.q) [4, 2] [0]⟩) := this
    rw [this, e]
  have tg : pureCall E.P (L E) 27 [V2, .agg ⟨[.int .i64 1, .slice none 0 0, .int .i64 100, .slice none 0 0]⟩, lst true [BV 1 6, BV 1 6, BV 0 6]] = some (.tuple ⟨[lst false [BV 1 6, BV 1 6, BV 0 6], .int .i64 0]⟩) := by
    have := bTighten_spec true duo duo_ok p26a p26a_ok (some true) [⟨1, 6⟩, ⟨1, 6⟩, ⟨0, 6⟩] Rec.ok_some (by decide)
    rw [duo_a] at this
    have e : Cp.tight (prQ p26a.q) [4, 2] [⟨1, 6⟩, ⟨1, 6⟩, ⟨0, 6⟩] = some [⟨1, 6⟩, ⟨1, 6⟩, ⟨0, 6⟩] := by kernel_rfl
    have this : pureCall E.P (L E) 27 [V2, .agg ⟨[.int .i64 1, .slice none 0 0, .int .i64 100, .slice none 0 0]⟩, lst true [BV 1 6, BV 1 6, BV 0 6]] = some (.tuple ⟨tightenV (Cp.tight (prQ p26a.q) [4, 2] [⟨1, 6⟩, ⟨1, 6⟩, ⟨0, 6⟩])⟩) := this
    rw [this, e]; rfl
  have sm : pureCall E.P (L E) 29 [lst false [BV 1 6, BV 1 6, BV 0 6], lst true [BV 1 6, BV 1 6, BV 0 6]] = some (.bool true) := same_spec (some false) (some true) [⟨1, 6⟩, ⟨1, 6⟩, ⟨0, 6⟩] [⟨1, 6⟩, ⟨1, 6⟩, ⟨0, 6⟩] Rec.ok_some Rec.ok_some (by decide)
  have sV : settled depth V2 = true := rfl
  have sI : ∀ z, settled depth (.int .i64 z) = true := fun z => rfl
  have sL : ∀ l, settled depth (lst true l) = true := fun l => rfl
  have rV : ∀ h, reify E.P 8 h V2 = some V2 := fun h => rfl
  rw [pureCall_fn F24 rfl]
  generalize hV : V2 = V at *
  have lrr := fun h => lit_rr h
  rw [hV] at lrr
  simp -implicitDefEqProofs [r24, p24, ret1 m51, r4, r2, lrr, pb_b2, pb_b1, sg2, br_b1, br_b2, lit_b, lit_b3, lit_i2, lit_i1, ret0 m25, ret1 m27, ret0 m30, ret0 m29, sV, sI, sL, rV, c1, c2, c3, c4, c5, c6, c7, rc, tg, sm]
end Go.Proofs.Ytcnafncmfiogcaa.Bm
namespace Go.Proofs.Ytcnafncmfiogcaa.Bm
open Go Go.RowKit
open Rg (Rect areaL)
open Cp (Q Nd Br prQ validQ run root reach chk best le2 lows)
inductive BestV (P : Rooms) (p : Pb) (V : List Value) : Prop
  | bad : okA P p = none → V = [.slice none 0 0, .int .i64 0, .slice none 0 0, .int .i64 1] → BestV P p V
  | full : (A : List Int) → okA P p = some A → best (prQ p.q) A = none → V = [.slice none 0 0, .int .i64 0, .slice none 0 0, .int .i64 6] → BestV P p V
  | ok : (A : List Int) → (v : Int) → (c : List Int) → (T : List Br) → (k : Option Bool) → okA P p = some A → best (prQ p.q) A = some (v, c, T) → Enc.Ok k c → V = [intE.o k c, .int .i64 v, lst false (brR.vals T), .int .i64 0] → BestV P p V
theorem best_v (P : Rooms) (hP : RoomsOk P) (p : Pb) (hp : PbOk p) : ∃ V, pureCall E.P (L E) 15 [roomsV false P, .agg ⟨p.cells⟩] = some (.tuple ⟨V⟩) ∧ BestV P p V := by
  cases ho : okA P p with
  | none => exact ⟨_, best_bad false P hP p hp (okA_none ho), .bad ho rfl⟩
  | some A =>
    obtain ⟨h1, h2⟩ := okA_some ho
    obtain ⟨k, hk, h3⟩ := best_ok false P hP p hp A h1 h2
    refine ⟨_, h3, ?_⟩
    cases hb : best (prQ p.q) A with
    | none => exact .full A ho hb rfl
    | some r =>
      obtain ⟨v, c, T⟩ := r
      exact .ok A v c T k ho hb (hk _ hb) rfl
theorem chk_tight {P : Cp.Pr} (hP : Cp.OnlyUs P) {A : List Int} (hA : ∀ a ∈ A, 0 ≤ a) (hm : 0 ≤ P.most) {v : Int} {c : List Int} {T l o : List Br} (h : best P A = some (v, c, T)) (ht : Cp.tight P A l = some o) (hl : lows l o = false) (hh : (o.headD ⟨0, 0⟩).bound = v) : chk P A c v l = 0 := by
  obtain ⟨⟨t, h1, h2⟩, _, _⟩ := Cp.best_told hP hA hm h
  unfold chk
  rw [h1, ht]
  simp only [h2, ↓reduceIte]
  rw [if_neg]
  rintro (k | k)
  · rw [hh] at k; omega
  · rw [hl] at k; cases k
theorem best_run {P : Cp.Pr} (hP : Cp.OnlyUs P) {A : List Int} (hA : ∀ a ∈ A, 0 ≤ a) (hm : 0 ≤ P.most) {v : Int} {c : List Int} {T : List Br} (h : best P A = some (v, c, T)) : c.length ≤ A.length ∧ T.length ≤ 4000 := by
  obtain ⟨⟨t, h1, _⟩, _, _⟩ := Cp.best_told hP hA hm h
  have := (Cp.run_rem h1).2.2
  have e : (root P A).rem = A := rfl
  rw [e] at this
  exact ⟨by omega, (Cp.best_sr h).1⟩
end Go.Proofs.Ytcnafncmfiogcaa.Bm
namespace Go.Proofs.Ytcnafncmfiogcaa.Bm
open Go Go.RowKit
open Rg (Rect areaL)
open Cp (Q Nd Br prQ validQ run root reach chk best le2 lows prv forest conts kidsL)
def InR (P : Cp.Pr) (l : List Br) : Prop := ∀ b ∈ l, 0 ≤ b.bound ∧ b.bound ≤ P.most
theorem forest_inR {P : Cp.Pr} {f : Nd → List Br → Option Cp.Rd} : ∀ {ts : List Nd} {m : Int} {r : List Br} {y : Cp.Rd}, forest f ts m r = some y → (∀ t ∈ ts, ∀ l x, f t l = some x → InR P x.2.1) → InR P y.2.1
  | [], m, r, y, h, _ => by
    have := Option.some.inj h; subst this
    exact fun b hb => by cases hb
  | t :: ts, m, r, y, h, hk => by
    obtain ⟨x, z, hx, hz, rfl⟩ := Cp.forest_cons h
    have h1 := hk t List.mem_cons_self r x hx
    have h2 := forest_inR hz fun w hw => hk w (List.mem_cons_of_mem t hw)
    intro b hb
    rcases List.mem_append.1 hb with hb | hb
    · exact h1 b hb
    · exact h2 b hb
theorem prv_inR {P : Cp.Pr} (hP : Cp.OnlyUs P) : ∀ (n : Nat) (s : Nd) (l : List Br) (x : Cp.Rd), s.rem.length ≤ n → Cp.Good P s → 0 ≤ s.v → prv P n s l = some x → InR P x.2.1
  | n, s, [], x, _, _, _, h => by rw [Cp.prv_nil] at h; cases h
  | 0, s, b :: r, x, hn, g, h0, h => by
    have hs := Cp.prv_sound hP 0 s (b :: r) x hn g h
    have hr : reach P s ≤ P.most := Int.min_le_right _ _
    have hg := Cp.good_reach g
    rw [Cp.prv_zero] at h
    by_cases k : b.kids = 0
    · rw [if_pos k] at h
      have := Option.some.inj h; subst this
      intro c hc
      rw [List.mem_singleton.1 hc]
      exact ⟨h0, by show s.v ≤ P.most; omega⟩
    · rw [if_neg k] at h; cases h
  | n + 1, s, b :: r, x, hn, g, h0, h => by
    have hs := Cp.prv_sound hP (n + 1) s (b :: r) x hn g h
    have hr : reach P s ≤ P.most := Int.min_le_right _ _
    have hg := Cp.good_reach g
    have hx0 : 0 ≤ x.1 := Int.le_trans h0 (hs.all [] s rfl)
    have hx1 : x.1 ≤ P.most := Int.le_trans hs.le hr
    rw [Cp.prv_succ] at h
    by_cases k : b.kids = (conts P s).length
    · rw [if_pos k] at h
      cases hz : forest (prv P n) (conts P s) s.v r with
      | none => rw [hz] at h; cases h
      | some z =>
        rw [hz] at h
        have := Option.some.inj h; subst this
        have h2 := forest_inR (P := P) hz fun t ht l y hy => by
          obtain ⟨u, hu⟩ := Cp.conts_mem ht
          have := Cp.next_rem hu
          obtain ⟨a, r', hr', rfl, _⟩ := Cp.next_some hu
          have ha := g.pos a (hr' ▸ List.mem_cons_self)
          exact prv_inR hP n _ l y (by omega) (Cp.next_good g hu) (by show 0 ≤ s.v + a; omega) hy
        intro c hc
        rcases List.mem_cons.1 hc with rfl | hc
        · exact ⟨hx0, hx1⟩
        · exact h2 c hc
    · rw [if_neg k] at h
      by_cases k0 : b.kids = 0
      · rw [if_pos k0] at h
        have := Option.some.inj h; subst this
        intro c hc
        rw [List.mem_singleton.1 hc]
        exact ⟨hx0, hx1⟩
      · rw [if_neg k0] at h; cases h
theorem tight_inR {P : Cp.Pr} (hP : Cp.OnlyUs P) {A : List Int} (hA : ∀ a ∈ A, 0 ≤ a) (hm : 0 ≤ P.most) {T o : List Br} (h : Cp.tight P A T = some o) : InR P o := by
  obtain ⟨_, m, hx⟩ := Cp.tight_iff.1 h
  exact prv_inR hP A.length (root P A) T _ (Nat.le_refl _) (Cp.root_good hA hm) (Int.le_refl 0) hx
theorem wrap_ne {v m : Int} (hv : -9223372036854775808 ≤ v ∧ v ≤ 9223372036854775807) (hm : -9223372036854775808 ≤ m ∧ m ≤ 9223372036854775807) (h0 : m ≠ 0) : IntKind.i64.wrap (v + m) ≠ v := by
  unfold IntKind.wrap
  simp [IntKind.bits, IntKind.signed]
  split <;> omega
theorem chk_one {P : Cp.Pr} {A : List Int} {v w : Int} {c : List Int} {t : Nd} (h : run P (root P A) c = some t) (hv : t.v = v) (hw : w ≠ v) (l : List Br) : chk P A c w l = 1 := by
  unfold chk
  rw [h]
  simp only
  rw [if_neg (by rw [hv]; exact fun e => hw e.symm)]
theorem chk_two {P : Cp.Pr} {A : List Int} {v : Int} {c : List Int} {t : Nd} {l : List Br} (h : run P (root P A) c = some t) (hv : t.v = v) (hl : Cp.tight P A l = none ∨ ∃ o, Cp.tight P A l = some o ∧ lows l o = true) : chk P A c v l = 2 := by
  unfold chk
  rw [h]
  simp only
  rw [if_pos hv]
  rcases hl with hl | ⟨o, h1, h2⟩
  · rw [hl]
  · rw [h1]
    simp only
    rw [if_pos (.inr h2)]
theorem br_all (T : List Br) : (brR.vals T).all (fun v => (cellsL v).length == 2) = true := Rec.vals_all T
theorem br_take (h : Heap) (T : List Br) (n : Nat) (hn : n ≤ T.length) : sliceT (.sl 41 ⟨some true, some 2⟩) h (lst false (brR.vals T)) none (some (.int .i64 (n : Int))) none = some (lst false (brR.vals (T.take n))) := by
  rw [slice_take (br_all T) (by rw [Rec.vals_len]; exact hn)]
  unfold Rec.vals
  rw [List.map_take]; rfl
theorem br_new (h : Heap) (lo : Nat) (st : Bool) (T : List Br) (hT : T ≠ []) (hl : T.length ≤ 1000000) : appendT (some elBr) h lo st (lst true []) (lst false (brR.vals T)) = some (brR.sl h.length T, h ++ [brR.row 41 T]) :=
  app_r0 (R := brR) (el := elBr) rfl (Rec.cells_tree (x := false) rfl T) hT (by show T.length * 16 ≤ 2 ^ 47; omega)
theorem br_more (h : Heap) (b : Nat) (T U : List Br) (x : Bool) (hob : h[b]? = some (brR.row 41 T)) (hl : T.length + U.length ≤ 1000000) : appendT (some elBr) h 0 false (brR.sl b T) (lst x (brR.vals U)) = some (brR.sl b (T ++ U), h.set b (brR.row 41 (T ++ U))) :=
  Rec.app (R := brR) (el := elBr) (t := 41) rfl hob (Rec.cells_tree (x := x) rfl U) (Nat.zero_le _) (by show (T.length + U.length) * 16 ≤ 2 ^ 47; omega)
theorem lit_b0 (h : Heap) : buildSliceT (some elBr) false h 0 ⟨[]⟩ = some (lst true [], h) := build_none.trans rfl
theorem at_rem {at_ : Int} {n : Nat} (h0 : 0 < n) (hn : n ≤ 1000000) : ∃ m i : Nat, i < n ∧ aBin E.P .and 3 (.int .i64 at_) (.int .i64 4611686018427387903) = some (.int .i64 (m : Int)) ∧ aBin E.P .rem 3 (.int .i64 (m : Int)) (.int .i64 (n : Int)) = some (.int .i64 (i : Int)) := by
  obtain ⟨m, hm, h1⟩ := and_mask (P := E.P) (t := 3) at_
  refine ⟨m, m % n, Nat.mod_lt _ h0, h1, ?_⟩
  show (if (n : Int) = 0 then none else some (Value.int .i64 ((m : Int).tmod n))) = _
  rw [if_neg (by omega)]
  rfl
end Go.Proofs.Ytcnafncmfiogcaa.Bm
namespace Go.Proofs.Ytcnafncmfiogcaa.Bm
open Go Go.RowKit
open Rg (Rect areaL)
open Cp (Q Nd Br prQ validQ run root reach chk best le2 lows prv forest conts kidsL)
set_option maxHeartbeats 8000000 in
theorem accepts_law (P : Rooms) (p : Pb) (at_ more : Int) (ha : Args P p) (hmo : -9223372036854775808 ≤ more ∧ more ≤ 9223372036854775807) : ∃ h', L E 9 [roomsV false P, p.val, .int .i64 at_, .int .i64 more] [] 0 = some (.bool true, h') := by
  have fw := ha.few false
  have sm := small26_spec
  have rr := rooms_reify false P
  have sr : settled depth (roomsV false P) = true := rfl
  have rcp : ∀ h, reifyC E.P 7 h p.cells = some p.cells := fun h => reifyC_set (pb_all p)
  have pe : p.val = .agg ⟨p.cells⟩ := rfl
  have ps : settled depth (.agg ⟨p.cells⟩) = true := p.set
  have lp : ∀ t, loadT ⟨some true, some 4⟩ (AObj.cells 26 p.cells 0 :: t) (.pointer (some ⟨0, 0, none⟩)) = some (.agg ⟨p.cells⟩) := fun t => obj_all (b := 0) rfl rfl
  rw [L_fn F9 rfl, pe]
  cases hF : fewB P p
  · rw [hF] at fw
    simp -implicitDefEqProofs [r9, p9, ret0 m24, sm, ret0 m13, rr, lp, rcp, fw]
  rw [hF] at fw
  obtain ⟨hPo, hp⟩ := ha.get hF
  obtain ⟨V, bv, hV⟩ := best_v P hPo p hp
  cases hV with
  | bad ho hv =>
    subst hv
    generalize roomsV false P = RV at *
    simp -implicitDefEqProofs [r9, p9, ret0 m24, sm, ret0 m13, rr, lp, rcp, fw, ret1 m15, sr, ps, bv]
  | full A ho hb hv =>
    subst hv
    generalize roomsV false P = RV at *
    simp -implicitDefEqProofs [r9, p9, ret0 m24, sm, ret0 m13, rr, lp, rcp, fw, ret1 m15, sr, ps, bv]
  | ok A v c T k ho hb hk hv =>
    subst hv
    have lT : ∀ h, lenT .sl h (lst false (brR.vals T)) = some (.int .i64 T.length) := fun h => Rec.o_len (R := brR) (k := some false) Rec.ok_some
    by_cases h1000 : 1000 < T.length
    · have h1000' : (1000 : Int) < T.length := by omega
      generalize lst false (brR.vals T) = TV at *
      generalize roomsV false P = RV at *
      simp -implicitDefEqProofs [r9, p9, ret0 m24, sm, ret0 m13, rr, lp, rcp, fw, ret1 m15, sr, ps, bv, lT, h1000']
    have h1000' : ¬ (1000 : Int) < T.length := by omega
    obtain ⟨hA, hq, hA0, hm0⟩ := okA_bq hp ho
    have hus := Cp.may_us (q := p.q)
    obtain ⟨hcl, _⟩ := best_run hus hA0 hm0 hb
    have h13 := hA.len
    obtain ⟨o, kk, o', ht, hle, heq⟩ := Cp.tight_best hus hA0 hm0 hb
    obtain ⟨hol, hone⟩ := tight_len ht
    have hTne : T ≠ [] := fun e => by rw [e] at hol; exact hone (List.eq_nil_of_length_eq_zero hol)
    have hT0 : 0 < T.length := List.length_pos_iff.2 hTne
    obtain ⟨⟨t, hrun, htv⟩, hmax, _⟩ := Cp.best_told hus hA0 hm0 hb
    have hv0 : 0 ≤ v := by have := hmax [] (root (prQ p.q) A) rfl; exact this
    have hvm : v ≤ p.q.most := by
      have := Cp.run_le (Cp.root_good hA0 hm0) hrun
      have h2 : reach (prQ p.q) (root (prQ p.q) A) ≤ p.q.most := Int.min_le_right _ _
      omega
    have hpm : p.q.most ≤ 9223372036854775807 := hp.m.2
    have hh : (o.headD ⟨0, 0⟩).bound = v := by rw [heq]; rfl
    have ck := fun w U (hU : U.length ≤ 1000000) => bCheck_spec false P hPo p hp k c hk (by omega) w (some false) U Rec.ok_some hU
    rw [pe, ho] at ck
    have ck : ∀ (w : Int) (U : List Br) (n : Nat), U.length ≤ 1000000 → chk (prQ p.q) A c w U = n → pureCall E.P (L E) 30 [roomsV false P, .agg ⟨p.cells⟩, intE.o k c, .int .i64 w, lst false (brR.vals U)] = some (.int .i64 (codeC n)) := fun w U n hU hn => by
      rw [← hn]; exact ck w U hU
    have c0 := ck v T 0 (by omega) (chk_tight hus hA0 hm0 hb ht (Cp.lows_le2 hle) hh)
    have t1 := bTighten_spec false P hPo p hp (some false) T Rec.ok_some (by omega)
    rw [pe, ho] at t1
    have t1 : pureCall E.P (L E) 27 [roomsV false P, .agg ⟨p.cells⟩, lst false (brR.vals T)] = some (.tuple ⟨tightenV (Cp.tight (prQ p.q) A T)⟩) := t1
    rw [ht] at t1
    have t1 : pureCall E.P (L E) 27 [roomsV false P, .agg ⟨p.cells⟩, lst false (brR.vals T)] = some (.tuple ⟨[lst false (brR.vals o), .int .i64 0]⟩) := t1
    obtain ⟨mm, i, hi, am, ar⟩ := at_rem (at_ := at_) hT0 (by omega)
    have hio : i < o.length := by omega
    have hoi := tight_inR hus hA0 hm0 ht o[i] (List.getElem_mem hio)
    have hmost : (prQ p.q).most = p.q.most := rfl
    rw [hmost] at hoi
    generalize hlow : T.set i ⟨T[i].kids, o[i].bound - 1⟩ = low
    have hlk : kidsL low = kidsL T := by
      rw [← hlow]
      unfold kidsL
      rw [List.map_set]
      apply List.ext_getElem
      · simp
      · intro j h1 h2
        rw [List.getElem_set]
        split
        · rename_i e; subst e; simp
        · rfl
    have hll : low.length = T.length := by rw [← hlow, List.length_set]
    have clow := ck v low 2 (by omega) (chk_two hrun htv (.inr ⟨o, Cp.tight_kids ht hlk, Cp.lows_at i (by omega) hio (by
      subst hlow
      simp only [List.getElem_set_self]
      omega)⟩))
    have htk : T = T.take (T.length - 1) ++ T.drop (T.length - 1) := (List.take_append_drop _ _).symm
    have hdr : T.drop (T.length - 1) ≠ [] := fun e => by
      have := congrArg List.length e
      rw [List.length_drop] at this
      simp at this; omega
    have cshort := ck v (T.take (T.length - 1)) 2 (by rw [List.length_take]; omega) (chk_two hrun htv (.inl (Cp.tight_short (htk ▸ ht) hdr)))
    have clong := ck v (T ++ [⟨0, T[0].bound⟩]) 2 (by rw [List.length_append]; simp only [List.length_cons, List.length_nil]; omega) (chk_two hrun htv (.inl (Cp.tight_long ht (by simp))))
    have cmore : more ≠ 0 → pureCall E.P (L E) 30 [roomsV false P, .agg ⟨p.cells⟩, intE.o k c, .int .i64 (IntKind.i64.wrap (v + more)), lst false (brR.vals T)] = some (.int .i64 (codeC 1)) := fun h0 => ck _ T 1 (by omega) (chk_one hrun htv (wrap_ne ⟨by omega, by omega⟩ hmo h0) T)
    -- the heap
    have lO : ∀ h, lenT .sl h (lst false (brR.vals o)) = some (.int .i64 o.length) := fun h => Rec.o_len (R := brR) (k := some false) Rec.ok_some
    have iO : indexAddrT (.sl 41 ⟨some true, some 2⟩) (lst false (brR.vals o)) (.int .i64 (i : Int)) = some (cptr (.agg ⟨[.int .i64 o[i].kids, .int .i64 o[i].bound]⟩)) := brV_index (some false) o Rec.ok_some i hio
    have iT0 : indexAddrT (.sl 41 ⟨some true, some 2⟩) (lst false (brR.vals T)) (.int .i64 0) = some (cptr (.agg ⟨[.int .i64 T[0].kids, .int .i64 T[0].bound]⟩)) := brV_index (some false) T Rec.ok_some 0 hT0
    have sT : settled depth (lst false (brR.vals T)) = true := rfl
    have rT : ∀ h, reify E.P 8 h (lst false (brR.vals T)) = some (lst false (brR.vals T)) := fun h => rfl
    have rC : ∀ h, reify E.P 8 h (intE.o k c) = some (intE.o k c) := fun h => Enc.o_reify
    have ap1 := br_new [AObj.cells 26 p.cells 0] 0 false T hTne (by omega)
    have ap2 := fun (r : AObj) st => br_new [AObj.cells 26 p.cells 0, r] 0 st T hTne (by omega)
    have ig := Rec.index_row (R := brR) (h0 := 2) (t := 41) (g := some true) (b := 1) (l := T) (i := i) (k := .i64) rfl hi
    have fg1 := Rec.field_row (R := brR) (b := 1) (n := 0) (f := 1) (l := T) (i := i) (k := ⟨some true, some 2⟩) (g := some false)
    have sk : storeT (some 1) [AObj.cells 26 p.cells 0, brR.row 41 T] 0 (.int .i64 (o[i].bound - 1)) (brR.at_ 1 T i 1) = some [AObj.cells 26 p.cells 0, brR.row 41 low] := by
      refine (Rec.store_cell (R := brR) (h := [AObj.cells 26 p.cells 0, brR.row 41 T]) (t := 41) (a := ⟨T[i].kids, o[i].bound - 1⟩) rfl rfl (Nat.zero_le _) hi (by decide) rfl).trans ?_
      rw [hlow]; rfl
    have ap3 := br_more [AObj.cells 26 p.cells 0, brR.row 41 low, brR.row 41 T] 2 T [⟨0, T[0].bound⟩] true rfl (by simp only [List.length_cons, List.length_nil]; omega)
    have ap3 : appendT (some elBr) [AObj.cells 26 p.cells 0, brR.row 41 low, brR.row 41 T] 0 false (brR.sl 2 T) (lst true [BV 0 T[0].bound]) = some (brR.sl 2 (T ++ [⟨0, T[0].bound⟩]), [AObj.cells 26 p.cells 0, brR.row 41 low, brR.row 41 (T ++ [⟨0, T[0].bound⟩])]) := ap3
    have rl1 : ∀ r, reify E.P 8 [AObj.cells 26 p.cells 0, brR.row 41 low, r] (brR.sl 1 T) = some (lst false (brR.vals low)) := fun r => by
      rw [← sl_same hll]
      exact Rec.reify_row (R := brR) (n := 7) rfl sB2 aB2
    have rl2 : reify E.P 8 [AObj.cells 26 p.cells 0, brR.row 41 low, brR.row 41 (T ++ [⟨0, T[0].bound⟩])] (brR.sl 2 (T ++ [⟨0, T[0].bound⟩])) = some (lst false (brR.vals (T ++ [⟨0, T[0].bound⟩]))) := Rec.reify_row (R := brR) (n := 7) rfl sB2 aB2
    have tk : ∀ h, sliceT (.sl 41 ⟨some true, some 2⟩) h (lst false (brR.vals T)) none (some (.int .i64 ((T.length : Int) - 1))) none = some (lst false (brR.vals (T.take (T.length - 1)))) := fun h => by
      have := br_take h T (T.length - 1) (by omega)
      rw [show ((T.length - 1 : Nat) : Int) = (T.length : Int) - 1 by omega] at this
      exact this
    have rS : ∀ h, reify E.P 8 h (lst false (brR.vals (T.take (T.length - 1)))) = some (lst false (brR.vals (T.take (T.length - 1)))) := fun h => rfl
    have wl : IntKind.i64.wrap ((T.length : Int) - 1) = (T.length : Int) - 1 := wrap64 (by omega) (by omega)
    have wo : IntKind.i64.wrap (o[i].bound - 1) = o[i].bound - 1 := wrap64 (by omega) (by omega)
    have hoT : (o.length : Int) = T.length := by omega
    rw [hoT] at lO
    generalize T[0].bound = tb at *
    generalize T ++ [⟨0, tb⟩] = long at *
    generalize lst false (brR.vals (T.take (T.length - 1))) = SV at *
    generalize lst false (brR.vals T) = TV at *
    generalize lst false (brR.vals o) = OV at *
    generalize lst false (brR.vals low) = LV at *
    generalize lst false (brR.vals long) = GV at *
    generalize intE.o k c = CV at *
    generalize roomsV false P = RV at *
    by_cases hmz : more = 0
    · simp -implicitDefEqProofs [r9, p9, ret0 m24, sm, ret0 m13, rr, lp, rcp, fw, ret1 m15, sr, ps, bv, lT, h1000', hTne, ret0 m30, rT, rC, c0, codeC, hmz, ret1 m27, sT, t1, lO, am, ar, lit_b0, ap1, iO, br_f1, wo, ig, fg1, sk, ap2, iT0, br_b1, lit_b, ap3, rl1, rl2, clow, wl, tk, rS, cshort, clong, -append_lst]
    · have cm := cmore hmz
      simp -implicitDefEqProofs [r9, p9, ret0 m24, sm, ret0 m13, rr, lp, rcp, fw, ret1 m15, sr, ps, bv, lT, h1000', hTne, ret0 m30, rT, rC, c0, codeC, hmz, cm, ret1 m27, sT, t1, lO, am, ar, lit_b0, ap1, iO, br_f1, wo, ig, fg1, sk, ap2, iT0, br_b1, lit_b, ap3, rl1, rl2, clow, wl, tk, rS, cshort, clong, -append_lst]
end Go.Proofs.Ytcnafncmfiogcaa.Bm
