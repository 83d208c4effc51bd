/-
  Chapter 32: the statement on the greatest load. Conditions: what the types say of the arguments.
-/
import Derived.Test.YtjkemccfcabhgaaQA23
namespace Go.Proofs.Ytjkemccfcabhgaa.Bm
open Go Go.RowKit
open Rg (Rect Pt)
open Cw (limited limited_in top)
def homeV (a u : Int) : Vo := ⟨⟨a, a, a + 1, a + 1⟩, 0, 3, 0, u, false⟩
set_option maxRecDepth 100000 in
theorem home1 : pureCall E.P (L E) 19 [.int .i64 1, .int .i64 3] = some (volR.val (homeV 1 3)) := pureCall_le (evF_L 20) (by kernel_rfl)
set_option maxRecDepth 100000 in
theorem home3 : pureCall E.P (L E) 19 [.int .i64 3, .int .i64 4] = some (volR.val (homeV 3 4)) := pureCall_le (evF_L 20) (by kernel_rfl)
set_option maxRecDepth 100000 in
theorem home5 : pureCall E.P (L E) 19 [.int .i64 5, .int .i64 6] = some (volR.val (homeV 5 6)) := pureCall_le (evF_L 20) (by kernel_rfl)
def nC : ByteArray := ⟨⟨[99]⟩⟩
def nD : ByteArray := ⟨⟨[100]⟩⟩
def cS : Cc := ⟨nC, 0, 10, true, [(0, 0), (9, 0), (9, 9), (0, 9)]⟩
def pS : Pn := ⟨none, none, [], none, none, none, none, none, 0⟩
def tS : Tw := ⟨pS, none, none, none, some true, [⟨1, homeV 1 3⟩], some true, [(nC, 2), (nD, 90)]⟩
def f1 : Ph := ⟨some true, [homeV 3 4], none, []⟩
def f2 : Ph := ⟨none, [], some true, [(nC, 5)]⟩
def f3 : Ph := ⟨some true, [homeV 5 6], none, []⟩
def rS : Rt := ⟨1, 0, 0, some true, [f1, f2, f3], 0, 0, false⟩
theorem v_load : loadT32 tS cS = 5 := by kernel_rfl
theorem v_f1 : phaseL tS.p.ts cS f1 = 4 := by kernel_rfl
theorem v_f2 : phaseL tS.p.ts cS f2 = -5 := by kernel_rfl
theorem v_f3 : phaseL tS.p.ts cS f3 = 6 := by kernel_rfl
theorem v_top : topR tS.p.ts cS rS = 5 := by
  have e : loadsR tS.p.ts cS rS = [4, -5, 6] := by
    show [phaseL tS.p.ts cS f1, phaseL tS.p.ts cS f2, phaseL tS.p.ts cS f3] = _
    rw [v_f1, v_f2, v_f3]
  unfold topR
  rw [e]; rfl
def eqG {α : Type} [DecidableEq α] (a b : List α) : Bool := decide (a = b)
theorem eqG_cons {α : Type} [DecidableEq α] {a b : α} {x y : List α} : eqG (a :: x) (b :: y) = (decide (a = b) && eqG x y) := by
  unfold eqG; simp only [List.cons.injEq, Bool.decide_and]
set_option maxHeartbeats 1000000 in
theorem equalI_spec (k m : Option Bool) (l r : List Int) (hk : Enc.Ok k l) (hm : Enc.Ok m r) (hl : l.length ≤ 9223372036854775807) : pureCall E.P (L E) 31 [intE.o k l, intE.o m r] = some (.bool (decide (l = r))) := by
  have ll := fun h => Enc.o_len (O := intE) (h := h) hk
  have lr := fun h => Enc.o_len (O := intE) (h := h) hm
  have il := fun (i : Nat) (hi : i < l.length) => Enc.index_o (O := intE) (t := 3) (k := .i64) hk hi
  have ir := fun (i : Nat) (hi : i < r.length) => Enc.index_o (O := intE) (t := 3) (k := .i64) hm hi
  generalize intE.o k l = VL at *
  generalize intE.o m r = VR at *
  rw [pureCall_fn F31 rfl]
  by_cases hlen : l.length = r.length
  · simp -implicitDefEqProofs [r31, p31, ll, lr, hlen]
    rw [LL_for (γ := Unit) l () (fun i _ => [(13, .int .i64 i)]) (fun _ _ => []) (fun i rest _ => if eqG rest (r.drop i) then (.exit 0, [(13, undef)], []) else (.ret, [(4, .bool false), (13, undef)], [])) (fun _ _ => True) hl trivial]
    · rw [List.drop_zero]
      by_cases q : l = r
      · subst q
        have h : eqG l l = true := decide_eq_true rfl
        simp -implicitDefEqProofs [k31_4, h]
      · have h : eqG l r = false := decide_eq_false q
        simp -implicitDefEqProofs [k31_4, h, q]
    · simp -implicitDefEqProofs [k31_4]
    · rfl
    · intro nx i c hi _
      have hd0 : eqG [] (r.drop i) = true := by rw [List.drop_eq_nil_of_le (by omega)]; rfl
      rw [hd0]
      simp -implicitDefEqProofs [r31_4, k31_4, hi, hlen, trim_le]
    · intro nx i v rest c hi hv hd hw _ ih
      have ih := ih () trivial
      have hi' : i < r.length := by omega
      have x1 := il i hi
      have x2 := ir i hi'
      rw [hv] at x1
      have hrd : r.drop i = r[i] :: r.drop (i + 1) := List.drop_eq_getElem_cons hi'
      rw [hrd, eqG_cons]
      simp -implicitDefEqProofs [k31_4] at ih
      by_cases he : v = r[i]
      · rw [← he] at x2
        simp -implicitDefEqProofs [r31_4, k31_4, hi', x1, x2, hw, ← he, trim_le, iE]
        with_reducible exact ih
      · simp -implicitDefEqProofs [r31_4, k31_4, hi', x1, x2, he, trim_le, iE]
  · have : ¬ l = r := fun e => hlen (by rw [e])
    have hlen' : ¬ ((l.length : Int) = r.length) := by omega
    simp -implicitDefEqProofs [r31, p31, ll, lr, hlen', this]
def chkV (t : Tw) (c : Cc) (l : List Rt) (k : Pk) : Int := if k.nm = c.nm ∧ k.base = loadT32 t c ∧ k.tops = topsR t c l then 0 else 19
set_option maxHeartbeats 1000000 in
theorem check_spec32 (t : Tw) (ht : TwFew t) (c : Cc) (hc : c.cs.length ≤ 1000000) (k : Option Bool) (l : List Rt) (hl : RsFew k l) (q : Pk) (hq : Enc.Ok q.kt q.tops) (hqn : q.tops.length ≤ 9223372036854775807) :
    pureCall E.P (L E) 21 [twV t, rtR.o k l, ccV c, pkV q] = some (.int .i64 (chkV t c l q)) := by
  have hpk := peak_spec t ht c hc k l hl
  have eT : l.map (topR t.p.ts c) = topsR t c l := rfl
  have eR : ∀ W : List Int, pkV ⟨c.nm, loadT32 t c, some false, W⟩ = .agg ⟨[.string c.nm, .int .i64 (loadT32 t c), intE.o (some false) W]⟩ := fun W => rfl
  have eQ : pkV q = .agg ⟨[.string q.nm, .int .i64 q.base, intE.o q.kt q.tops]⟩ := rfl
  rw [eT, eR] at hpk
  rw [eQ]
  have heq := equalI_spec q.kt (some false) q.tops (topsR t c l) hq Enc.ok_some hqn
  have rq : ∀ h, reify E.P 8 h (intE.o q.kt q.tops) = some (intE.o q.kt q.tops) := fun h => Enc.o_reify
  have rw_ : ∀ h, reify E.P 8 h (intE.o (some false) (topsR t c l)) = some (intE.o (some false) (topsR t c l)) := fun h => Enc.o_reify
  have st : settled depth (twV t) = true := twC_set t 6
  have sc : settled depth (ccV c) = true := rfl
  have sr : settled depth (rtR.o k l) = true := Rec.o_set
  rw [pureCall_fn F21 rfl]
  unfold chkV
  unfold ccV ccC twV twC at *
  generalize tbR.o t.p.kt t.p.ts = VT at *
  generalize pdR.o t.kb t.bs = VB at *
  generalize entR.o t.ke t.es = VE at *
  generalize rtR.o k l = VL at *
  generalize loadT32 t c = n0 at *
  generalize topsR t c l = W at *
  generalize intE.o (some false) W = VW at *
  generalize intE.o q.kt q.tops = VQ at *
  by_cases h1 : q.nm = c.nm
  case neg =>
    rw [if_neg (fun h => h1 h.1)]
    simp -implicitDefEqProofs [r21, p21, ret1 m9, hpk, st, sc, sr, h1]
    done
  by_cases h2 : q.base = n0
  case neg =>
    rw [if_neg (fun h => h2 h.2.1)]
    simp -implicitDefEqProofs [r21, p21, ret1 m9, hpk, st, sc, sr, h1, h2]
    done
  by_cases h3 : q.tops = W
  · rw [if_pos ⟨h1, h2, h3⟩]
    rw [decide_eq_true h3] at heq
    simp -implicitDefEqProofs [r21, p21, ret1 m9, hpk, st, sc, sr, h1, h2, ret0 m31, rq, rw_, heq]
    done
  · rw [if_neg (fun h => h3 h.2.2)]
    rw [decide_eq_false h3] at heq
    simp -implicitDefEqProofs [r21, p21, ret1 m9, hpk, st, sc, sr, h1, h2, ret0 m31, rq, rw_, heq]
    done
end Go.Proofs.Ytjkemccfcabhgaa.Bm
namespace Go.Proofs.Ytjkemccfcabhgaa.Bm
open Go Go.RowKit
open Cw (top top_ge stp IsMax stp_max max_unique nam nam_in)
theorem runS_max : ∀ (ls : List (List Int)) {b b' : Bool} {S T : List Int} {m : Int}, IsMax S m → runS b S ls = (b', T, true) → IsMax T (m + (ls.map top).sum)
  | [], b, b', S, T, m, h, e => by
    rw [runS_nil] at e
    simp only [Prod.mk.injEq, and_true] at e
    rw [← e.2]
    simpa using h
  | l :: ls, b, b', S, T, m, h, e => by
    rw [runS_cons] at e
    split at e
    · simp at e
    · have := runS_max ls (stp_max (l := l) h) e
      rw [List.map_cons, List.sum_cons, ← Int.add_assoc]
      exact this
theorem worst_is {ls : List (List Int)} {n : Int} {b : Bool} {S : List Int} (e : runS true [n] ls = (b, S, true)) : maxF (S.headD 0) S.tail = n + (ls.map top).sum := by
  have h1 : IsMax [n] n := ⟨by simp, fun x hx => by simp at hx; omega⟩
  have h2 := runS_max ls h1 e
  cases S with
  | nil => exact absurd h2.1 (by simp)
  | cons a S => exact max_unique (maxF_is S a) h2
structure PhTiny (p : Ph) : Prop where
  vs : p.vs.length ≤ 20
  gs : p.gs.length ≤ 20
theorem phaseL_tiny (ts : List Tb) (c : Cc) {p : Ph} (h : PhTiny p) : -21990232555520 ≤ phaseL ts c p ∧ phaseL ts c p ≤ 43980465111040 := by
  have h1 := nam_in c.nm p.gs
  have h2 := sumV_in ts c p.vs
  have h3 := h.vs
  have h4 := h.gs
  unfold phaseL
  omega
theorem top_le : ∀ (l : List Int), (∀ x ∈ l, x ≤ 43980465111040) → top l ≤ (l.length : Int) * 43980465111040
  | [], _ => by simp [Cw.top_nil]
  | a :: l, h => by
    have h1 := top_le l fun x hx => h x (List.mem_cons_of_mem _ hx)
    have h2 := h a List.mem_cons_self
    rw [Cw.top_cons, List.length_cons]
    omega
structure RtTiny (r : Rt) : Prop where
  few : RtFew r
  len : r.ph.length ≤ 20
  ph : ∀ p ∈ r.ph, PhTiny p
theorem leftR_mem {r : Rt} {p : Ph} (h : p ∈ leftR r) : p ∈ r.ph := by
  unfold leftR at h
  split at h
  · exact List.mem_of_mem_drop h
  · cases h
theorem leftR_len (r : Rt) : (leftR r).length ≤ r.ph.length := by
  unfold leftR
  split
  · rw [List.length_drop]; omega
  · simp
theorem topR_in (ts : List Tb) (c : Cc) {r : Rt} (h : RtTiny r) : 0 ≤ topR ts c r ∧ topR ts c r ≤ 900000000000000 := by
  refine ⟨top_ge _, ?_⟩
  have h1 := top_le (loadsR ts c r) fun x hx => by
    obtain ⟨p, hp, rfl⟩ := List.mem_map.1 hx
    exact (phaseL_tiny ts c (h.ph p (leftR_mem hp))).2
  have h2 : (loadsR ts c r).length ≤ 20 := by
    have := leftR_len r
    have := h.len
    unfold loadsR
    rw [List.length_map]; omega
  unfold topR
  omega
theorem subW_eq : ∀ (l : List Int) (n : Int), (∀ x ∈ l, 0 ≤ x) → n ≤ 9000000000000000000 → -9000000000000000000 ≤ n - l.sum → subW n l = n - l.sum
  | [], n, _, _, _ => by show n = n - 0; omega
  | a :: l, n, h, h1, h2 => by
    rw [List.sum_cons] at h2 ⊢
    have h3 := h a List.mem_cons_self
    have h4 : 0 ≤ l.sum := by
      have : ∀ l : List Int, (∀ x ∈ l, 0 ≤ x) → 0 ≤ l.sum := by
        intro l
        induction l with
        | nil => intro _; simp
        | cons a l ih => intro h; rw [List.sum_cons]; have := ih (fun x hx => h x (List.mem_cons_of_mem _ hx)); have := h a List.mem_cons_self; omega
      exact this l fun x hx => h x (List.mem_cons_of_mem _ hx)
    rw [subW_cons, wrap64 (by omega) (by omega), subW_eq l (n - a) (fun x hx => h x (List.mem_cons_of_mem _ hx)) (by omega) (by omega)]
    omega
theorem sum_le : ∀ (l : List Int) (b : Int), (∀ x ∈ l, 0 ≤ x ∧ x ≤ b) → 0 ≤ l.sum ∧ l.sum ≤ (l.length : Int) * b
  | [], _, _ => by simp
  | a :: l, b, h => by
    have h1 := sum_le l b fun x hx => h x (List.mem_cons_of_mem _ hx)
    have h2 := h a List.mem_cons_self
    rw [List.sum_cons, List.length_cons, Int.natCast_add, Int.add_mul]
    simp only [Int.natCast_one, Int.one_mul]
    omega
structure Tiny (t : Tw) (k : Option Bool) (l : List Rt) : Prop where
  tw : TwFew t
  bs : t.bs.length ≤ 400
  es : t.es.length ≤ 400
  kk : Rec.Ok k l
  len : l.length ≤ 10
  rt : ∀ r ∈ l, RtTiny r
theorem Tiny.rs {t : Tw} {k : Option Bool} {l : List Rt} (h : Tiny t k l) : RsFew k l := ⟨h.kk, fun r hr => (h.rt r hr).few, by have := h.len; omega⟩
theorem Tiny.ti {t : Tw} {k : Option Bool} {l : List Rt} (h : Tiny t k l) : RsTiny k l := ⟨h.rs, h.len, fun r hr => (h.rt r hr).len⟩
theorem Tiny.tops {t : Tw} {k : Option Bool} {l : List Rt} (h : Tiny t k l) (c : Cc) : ∀ x ∈ topsR t c l, 0 ≤ x ∧ x ≤ 900000000000000 := by
  intro x hx
  obtain ⟨r, hr, rfl⟩ := List.mem_map.1 hx
  exact topR_in _ _ (h.rt r hr)
theorem Tiny.sum {t : Tw} {k : Option Bool} {l : List Rt} (h : Tiny t k l) (c : Cc) : 0 ≤ (topsR t c l).sum ∧ (topsR t c l).sum ≤ 9000000000000000 := by
  have h1 := sum_le (topsR t c l) 900000000000000 (h.tops c)
  have h2 : (topsR t c l).length ≤ 10 := by unfold topsR; rw [List.length_map]; exact h.len
  omega
theorem Tiny.load {t : Tw} {k : Option Bool} {l : List Rt} (h : Tiny t k l) (c : Cc) : -500000000000000 ≤ loadT32 t c ∧ loadT32 t c ≤ 1000000000000000 := by
  have k1 := nam_in c.nm t.es
  have k2 := sumV_in t.p.ts c (t.bs.map (·.v))
  rw [List.length_map] at k2
  have := h.bs; have := h.es
  unfold loadT32
  omega
theorem Tiny.slack {t : Tw} {k : Option Bool} {l : List Rt} (h : Tiny t k l) (c : Cc) (h1 : -1099511627776 ≤ c.lim) (h2 : c.lim ≤ 1099511627776) : slackW c.lim (loadT32 t c) (topsR t c l) = c.lim - loadT32 t c - (topsR t c l).sum := by
  have k1 := h.sum c
  have k2 := h.load c
  unfold slackW
  rw [wrap64 (by omega) (by omega)]
  exact subW_eq _ _ (fun x hx => (h.tops c x hx).1) (by omega) (by omega)
theorem few_get {t : Tw} {k : Option Bool} {l : List Rt} (h : Args t k l) (hf : fewB t l = true) : Tiny t k l ∧ l.length ≤ 6 ∧ t.bs.length ≤ 20 ∧ t.es.length ≤ 20 ∧ ∀ r ∈ l, r.ph.length ≤ 9 := by
  unfold fewB at hf
  simp only [Bool.and_eq_true, decide_eq_true_eq] at hf
  obtain ⟨h1, h2, h3, h4, h5, h6⟩ := hf
  rw [List.take_of_length_le (by omega)] at h2
  have hph : ∀ r ∈ l, r.ph.length ≤ 9 ∧ ∀ p ∈ r.ph, p.vs.length ≤ 6 ∧ p.gs.length ≤ 6 := by
    intro r hr
    have q := List.all_eq_true.1 h2 r hr
    unfold fewR at q
    simp only [Bool.and_eq_true, decide_eq_true_eq] at q
    obtain ⟨q1, q2⟩ := q
    rw [List.take_of_length_le (by omega)] at q1
    refine ⟨q2, fun p hp => ?_⟩
    have q := List.all_eq_true.1 q1 p hp
    unfold fewP at q
    simp only [Bool.and_eq_true, decide_eq_true_eq] at q
    exact q
  refine ⟨⟨⟨⟨h.tw.kt, by omega, fun b hb => ⟨h.tw.kr b hb, ?_⟩⟩, h.tw.kb, h.tw.ke, by omega, by omega⟩, by omega, by omega, h.kk, by omega, fun r hr => ?_⟩, h6, h5, h4, fun r hr => (hph r hr).1⟩
  · have q := List.all_eq_true.1 h1 b hb
    unfold fewT at q
    have := of_decide_eq_true q
    omega
  · have a1 := h.rr r hr
    have a2 := hph r hr
    refine ⟨⟨a1.kp, ⟨fun p hp => a1.ph p hp, fun p hp => ?_, by omega⟩⟩, by omega, fun p hp => ?_⟩
    · have := a2.2 p hp
      exact ⟨by omega, by omega⟩
    · have := a2.2 p hp
      exact ⟨by omega, by omega⟩
theorem sum_set : ∀ (l : List Int) (i : Nat) (x : Int) (hi : i < l.length), (l.set i x).sum = l.sum - l[i] + x
  | [], i, x, hi => absurd hi (by simp)
  | a :: l, 0, x, hi => by simp only [List.set_cons_zero, List.sum_cons, List.getElem_cons_zero]; omega
  | a :: l, i + 1, x, hi => by
    simp only [List.set_cons_succ, List.sum_cons, List.getElem_cons_succ]
    rw [sum_set l i x (by simpa using hi)]; omega
theorem tops_set (t : Tw) (c : Cc) (l : List Rt) (i : Nat) (r : Rt) : topsR t c (l.set i r) = (topsR t c l).set i (topR t.p.ts c r) := by
  unfold topsR; rw [List.map_set]
theorem ownR_tiny {r : Rt} (h : RtTiny r) : RtTiny (ownR r) := ⟨ownR_few h.few, by show (r.ph.map cloP).length ≤ 20; rw [List.length_map]; exact h.len, fun p hp => by obtain ⟨q, hq, rfl⟩ := List.mem_map.1 hp; exact ⟨(h.ph q hq).vs, (h.ph q hq).gs⟩⟩
theorem lapR_tiny {r : Rt} (h : RtTiny r) (d : Int) : RtTiny (lapR r d) := let k := ownR_tiny h; ⟨⟨k.few.kp, k.few.ph⟩, k.len, k.ph⟩
theorem useR_tiny {r : Rt} (h : RtTiny r) : RtTiny (useR r) := let k := ownR_tiny h; ⟨⟨k.few.kp, k.few.ph⟩, k.len, k.ph⟩
theorem loads_clo (ts : List Tb) (c : Cc) (l : List Ph) : (l.map cloP).map (phaseL ts c) = l.map (phaseL ts c) := by rw [List.map_map]; rfl
theorem lap_top (ts : List Tb) (c : Cc) (r : Rt) (d : Int) : topR ts c (lapR r d) = if lapB r d = true then 0 else topR ts c r := by
  unfold topR
  have e : loadsR ts c (lapR r d) = if lapB r d = true then [] else loadsR ts c r := by
    have el : livR (lapR r d) = (livR r && !lapB r d) := by
      unfold livR
      show (!(r.over || lapB r d) && (decide (0 ≤ r.used) && decide (r.used < ((r.ph.map cloP).length : Int)))) = _
      rw [List.length_map]
      cases r.over <;> cases lapB r d <;> simp
    unfold loadsR leftR
    rw [el]
    cases hb : lapB r d
    · rw [Bool.not_false, Bool.and_true]
      cases hv : livR r
      · rfl
      · show ((r.ph.map cloP).drop r.used.toNat).map (phaseL ts c) = (r.ph.drop r.used.toNat).map (phaseL ts c)
        rw [← List.map_drop, loads_clo]
    · rw [Bool.not_true, Bool.and_false]; rfl
  rw [e]
  split <;> rfl
theorem liv_in {r : Rt} (h : livR r = true) : r.over = false ∧ 0 ≤ r.used ∧ r.used < r.ph.length := by
  unfold livR at h
  simpa [Bool.and_eq_true, decide_eq_true_eq] using h
theorem use_loads (ts : List Tb) (c : Cc) (r : Rt) (h : livR r = true) : loadsR ts c r = phaseL ts c (useP r) :: loadsR ts c (useR r) := by
  obtain ⟨h0, h1, h2⟩ := liv_in h
  have hlt : r.used.toNat < r.ph.length := by omega
  have e1 : loadsR ts c r = (r.ph.drop r.used.toNat).map (phaseL ts c) := by unfold loadsR leftR; rw [if_pos h]
  have e2 : useP r = cloP r.ph[r.used.toNat] := by
    unfold useP
    rw [List.getD_eq_getElem?_getD, List.getElem?_eq_getElem hlt]; rfl
  have e3 : loadsR ts c (useR r) = (r.ph.drop (r.used.toNat + 1)).map (phaseL ts c) := by
    unfold loadsR leftR
    have el : livR (useR r) = decide (r.used + 1 < (r.ph.length : Int)) := by
      unfold livR
      show (!r.over && (decide (0 ≤ r.used + 1) && decide (r.used + 1 < ((r.ph.map cloP).length : Int)))) = _
      rw [List.length_map, h0, decide_eq_true (by omega : 0 ≤ r.used + 1)]; rfl
    rw [el]
    by_cases q : r.used + 1 < (r.ph.length : Int)
    · rw [if_pos (decide_eq_true q)]
      show ((r.ph.map cloP).drop (r.used + 1).toNat).map (phaseL ts c) = _
      rw [← List.map_drop, loads_clo, show (r.used + 1).toNat = r.used.toNat + 1 by omega]
    · rw [if_neg (by simpa using q), List.drop_eq_nil_of_le (by omega)]
  rw [e1, e2, e3, List.drop_eq_getElem_cons hlt, List.map_cons, cloP_load]
theorem useP_tiny {r : Rt} (h : RtTiny r) (hl : livR r = true) : PhOk (useP r) ∧ PhTiny (useP r) := by
  obtain ⟨h0, h1, h2⟩ := liv_in hl
  have hlt : r.used.toNat < r.ph.length := by omega
  have e2 : useP r = cloP r.ph[r.used.toNat] := by
    unfold useP
    rw [List.getD_eq_getElem?_getD, List.getElem?_eq_getElem hlt]; rfl
  have hm : r.ph[r.used.toNat] ∈ r.ph := List.getElem_mem hlt
  rw [e2]
  exact ⟨cloP_ok (h.few.ph.ok _ hm), ⟨(h.ph _ hm).vs, (h.ph _ hm).gs⟩⟩
theorem built_load (t : Tw) (c : Cc) (lot : Int) (f : Ph) : loadT32 (builtT t lot f) c = loadT32 t c + phaseL t.p.ts c f := by
  unfold loadT32 phaseL
  show nam c.nm (t.es ++ newE f) + sumV t.p.ts c ((t.bs ++ newB lot f).map (·.v)) = _
  rw [Cw.nam_append, List.map_append, sumV_app]
  have e1 : nam c.nm (newE f) = -nam c.nm f.gs := Cw.nam_neg c.nm f.gs
  have e2 : (newB lot f).map (·.v) = f.vs := by unfold newB; rw [List.map_map]; exact List.map_id _
  rw [e1, e2]; omega
end Go.Proofs.Ytjkemccfcabhgaa.Bm
namespace Go.Proofs.Ytjkemccfcabhgaa.Bm
open Go Go.RowKit
open Rg (Rect Pt)
open Cw (limited limited_in top)
theorem tS_few : TwFew tS := ⟨⟨fun _ => rfl, by decide, fun t ht => absurd ht (by simp [tS, pS])⟩, Rec.ok_some, Rec.ok_some, by decide, by decide⟩
theorem rS_tiny : RtTiny rS := by
  have hm : ∀ p ∈ rS.ph, p = f1 ∨ p = f2 ∨ p = f3 := fun p hp => by simpa [rS] using hp
  refine ⟨⟨Rec.ok_some, fun p hp => ?_, fun p hp => ?_, by decide⟩, by decide, fun p hp => ?_⟩
  · rcases hm p hp with rfl | rfl | rfl
    · exact ⟨Rec.ok_some, fun _ => rfl⟩
    · exact ⟨fun _ => rfl, Rec.ok_some⟩
    · exact ⟨Rec.ok_some, fun _ => rfl⟩
  · rcases hm p hp with rfl | rfl | rfl <;> exact ⟨by decide, by decide⟩
  · rcases hm p hp with rfl | rfl | rfl <;> exact ⟨by decide, by decide⟩
theorem tS_tiny1 : Tiny tS (some true) [rS] := ⟨tS_few, by decide, by decide, Rec.ok_some, by decide, fun r hr => by
  obtain rfl : r = rS := by simpa using hr
  exact rS_tiny⟩
theorem tS_tiny0 : Tiny tS none [] := ⟨tS_few, by decide, by decide, fun _ => rfl, by decide, fun r hr => absurd hr (by simp)⟩
theorem v_tops1 : topsR tS cS [rS] = [5] := by
  show [topR tS.p.ts cS rS] = _
  rw [v_top]
theorem v_loads : loadsR tS.p.ts cS rS = [4, -5, 6] := by
  show [phaseL tS.p.ts cS f1, phaseL tS.p.ts cS f2, phaseL tS.p.ts cS f3] = _
  rw [v_f1, v_f2, v_f3]
def CSv : Value := lst true [.agg ⟨[.int .i64 0, .int .i64 0]⟩, .agg ⟨[.int .i64 9, .int .i64 0]⟩, .agg ⟨[.int .i64 9, .int .i64 9]⟩, .agg ⟨[.int .i64 0, .int .i64 9]⟩]
def BASEv : Value := lst true [.agg ⟨[.string ⟨⟨[99]⟩⟩, .int .i64 2]⟩, .agg ⟨[.string ⟨⟨[100]⟩⟩, .int .i64 90]⟩]
def BUILTv : Value := lst true [.agg ⟨[.int .i64 1, .int .i64 1, .int .i64 1, .int .i64 2, .int .i64 2, .int .i64 0, .int .i64 3, .int .i64 0, .int .i64 3, .bool false]⟩]
def GIVv : Value := lst true [.agg ⟨[.string ⟨⟨[99]⟩⟩, .int .i64 5]⟩]
def V34v : Value := lst true [.agg ⟨[.int .i64 3, .int .i64 3, .int .i64 4, .int .i64 4, .int .i64 0, .int .i64 3, .int .i64 0, .int .i64 4, .bool false]⟩]
def V56v : Value := lst true [.agg ⟨[.int .i64 5, .int .i64 5, .int .i64 6, .int .i64 6, .int .i64 0, .int .i64 3, .int .i64 0, .int .i64 6, .bool false]⟩]
def PHv : Value := lst true [.agg ⟨[V34v, .slice none 0 0]⟩, .agg ⟨[.slice none 0 0, GIVv]⟩, .agg ⟨[V56v, .slice none 0 0]⟩]
def RTSv : Value := lst true [.agg ⟨[.int .i64 1, .int .i64 0, .int .i64 0, PHv, .int .i64 0, .int .i64 0, .bool false]⟩]
theorem lit_cs (h : Heap) : buildSliceT (some ⟨84, 2, 16, .agg ⟨[.int .i64 0, .int .i64 0]⟩, ⟨some true, some 2⟩⟩) false h 4 #[(0, .agg ⟨[.int .i64 0, .int .i64 0]⟩), (1, .agg ⟨[.int .i64 9, .int .i64 0]⟩), (2, .agg ⟨[.int .i64 9, .int .i64 9]⟩), (3, .agg ⟨[.int .i64 0, .int .i64 9]⟩)] = some (CSv, h) :=
  (build_lit' (n := 4) rfl rfl (by decide) (by decide) (by decide)).trans rfl
theorem lit_base (h : Heap) : buildSliceT (some ⟨68, 2, 24, .agg ⟨[.string ⟨⟨[]⟩⟩, .int .i64 0]⟩, ⟨some true, some 2⟩⟩) false h 2 #[(0, .agg ⟨[.string ⟨⟨[99]⟩⟩, .int .i64 2]⟩), (1, .agg ⟨[.string ⟨⟨[100]⟩⟩, .int .i64 90]⟩)] = some (BASEv, h) :=
  (build_lit' (n := 2) rfl rfl (by decide) (by decide) (by decide)).trans rfl
theorem lit_built (h : Heap) : buildSliceT (some ⟨66, 10, 80, .agg ⟨[.int .i64 0, .int .i64 0, .int .i64 0, .int .i64 0, .int .i64 0, .int .i64 0, .int .i64 0, .int .i64 0, .int .i64 0, .bool false]⟩, ⟨some true, some 10⟩⟩) false h 1 #[(0, .agg ⟨[.int .i64 1, .int .i64 1, .int .i64 1, .int .i64 2, .int .i64 2, .int .i64 0, .int .i64 3, .int .i64 0, .int .i64 3, .bool false]⟩)] = some (BUILTv, h) :=
  (build_lit' (n := 1) rfl rfl (by decide) (by decide) (by decide)).trans rfl
theorem lit_v34 (h : Heap) : buildSliceT (some ⟨64, 9, 72, .agg ⟨[.int .i64 0, .int .i64 0, .int .i64 0, .int .i64 0, .int .i64 0, .int .i64 0, .int .i64 0, .int .i64 0, .bool false]⟩, ⟨some true, some 9⟩⟩) false h 1 #[(0, .agg ⟨[.int .i64 3, .int .i64 3, .int .i64 4, .int .i64 4, .int .i64 0, .int .i64 3, .int .i64 0, .int .i64 4, .bool false]⟩)] = some (V34v, h) :=
  (build_lit' (n := 1) rfl rfl (by decide) (by decide) (by decide)).trans rfl
theorem lit_v56 (h : Heap) : buildSliceT (some ⟨64, 9, 72, .agg ⟨[.int .i64 0, .int .i64 0, .int .i64 0, .int .i64 0, .int .i64 0, .int .i64 0, .int .i64 0, .int .i64 0, .bool false]⟩, ⟨some true, some 9⟩⟩) false h 1 #[(0, .agg ⟨[.int .i64 5, .int .i64 5, .int .i64 6, .int .i64 6, .int .i64 0, .int .i64 3, .int .i64 0, .int .i64 6, .bool false]⟩)] = some (V56v, h) :=
  (build_lit' (n := 1) rfl rfl (by decide) (by decide) (by decide)).trans rfl
theorem lit_giv (h : Heap) : buildSliceT (some ⟨68, 2, 24, .agg ⟨[.string ⟨⟨[]⟩⟩, .int .i64 0]⟩, ⟨some true, some 2⟩⟩) false h 1 #[(0, .agg ⟨[.string ⟨⟨[99]⟩⟩, .int .i64 5]⟩)] = some (GIVv, h) :=
  (build_lit' (n := 1) rfl rfl (by decide) (by decide) (by decide)).trans rfl
theorem lit_ph (h : Heap) : buildSliceT (some ⟨77, 2, 48, .agg ⟨[.slice none 0 0, .slice none 0 0]⟩, ⟨some true, some 2⟩⟩) false h 3 #[(0, .agg ⟨[V34v, .slice none 0 0]⟩), (1, .agg ⟨[.slice none 0 0, GIVv]⟩), (2, .agg ⟨[V56v, .slice none 0 0]⟩)] = some (PHv, h) :=
  (build_lit' (n := 3) rfl rfl (by decide) (by decide) (by decide)).trans rfl
theorem lit_rt (h : Heap) : buildSliceT (some ⟨58, 7, 72, .agg ⟨[.int .i64 0, .int .i64 0, .int .i64 0, .slice none 0 0, .int .i64 0, .int .i64 0, .bool false]⟩, ⟨some true, some 7⟩⟩) false h 1 #[(0, .agg ⟨[.int .i64 1, .int .i64 0, .int .i64 0, PHv, .int .i64 0, .int .i64 0, .bool false]⟩)] = some (RTSv, h) :=
  (build_lit' (n := 1) rfl rfl (by decide) (by decide) (by decide)).trans rfl
theorem b_pt0 : buildT (.fs ⟨[.int .i64 0, .int .i64 0]⟩ ⟨[(0, 1), (1, 1)]⟩) #[(0, .int .i64 0), (1, .int .i64 0)] = some (.agg ⟨[.int .i64 0, .int .i64 0]⟩) := rfl
theorem b_pt1 : buildT (.fs ⟨[.int .i64 0, .int .i64 0]⟩ ⟨[(0, 1), (1, 1)]⟩) #[(0, .int .i64 9), (1, .int .i64 0)] = some (.agg ⟨[.int .i64 9, .int .i64 0]⟩) := rfl
theorem b_pt2 : buildT (.fs ⟨[.int .i64 0, .int .i64 0]⟩ ⟨[(0, 1), (1, 1)]⟩) #[(0, .int .i64 9), (1, .int .i64 9)] = some (.agg ⟨[.int .i64 9, .int .i64 9]⟩) := rfl
theorem b_pt3 : buildT (.fs ⟨[.int .i64 0, .int .i64 0]⟩ ⟨[(0, 1), (1, 1)]⟩) #[(0, .int .i64 0), (1, .int .i64 9)] = some (.agg ⟨[.int .i64 0, .int .i64 9]⟩) := rfl
theorem b_en (s : ByteArray) (z : Int) : buildT (.fs ⟨[.string ⟨⟨[]⟩⟩, .int .i64 0]⟩ ⟨[(0, 1), (1, 1)]⟩) #[(0, .string s), (1, .int .i64 z)] = some (.agg ⟨[.string s, .int .i64 z]⟩) := rfl
theorem b_cap : buildT (.fs ⟨[.string ⟨⟨[]⟩⟩, .int .i64 0, .int .i64 0, .slice none 0 0]⟩ ⟨[(0, 1), (1, 1), (2, 1), (3, 1)]⟩) #[(0, .string ⟨⟨[99]⟩⟩), (1, .int .i64 0), (2, .int .i64 10), (3, CSv)] = some (.agg ⟨[.string ⟨⟨[99]⟩⟩, .int .i64 0, .int .i64 10, CSv]⟩) := rfl
theorem b_pd : buildT (.fs ⟨[.int .i64 0, .int .i64 0, .int .i64 0, .int .i64 0, .int .i64 0, .int .i64 0, .int .i64 0, .int .i64 0, .int .i64 0, .bool false]⟩ ⟨[(0, 1), (1, 9)]⟩) #[(0, .int .i64 1), (1, .agg ⟨[.int .i64 1, .int .i64 1, .int .i64 2, .int .i64 2, .int .i64 0, .int .i64 3, .int .i64 0, .int .i64 3, .bool false]⟩)] = some (.agg ⟨[.int .i64 1, .int .i64 1, .int .i64 1, .int .i64 2, .int .i64 2, .int .i64 0, .int .i64 3, .int .i64 0, .int .i64 3, .bool false]⟩) := rfl
theorem b_tw : buildT (.fs ⟨[.slice none 0 0, .slice none 0 0, .slice none 0 0, .slice none 0 0, .slice none 0 0, .slice none 0 0, .slice none 0 0, .int .i64 0, .slice none 0 0, .slice none 0 0, .slice none 0 0, .slice none 0 0, .slice none 0 0]⟩ ⟨[(0, 8), (8, 1), (9, 1), (10, 1), (11, 1), (12, 1)]⟩) #[(5, BASEv), (4, BUILTv)] = some (.agg ⟨[.slice none 0 0, .slice none 0 0, .slice none 0 0, .slice none 0 0, .slice none 0 0, .slice none 0 0, .slice none 0 0, .int .i64 0, .slice none 0 0, .slice none 0 0, .slice none 0 0, BUILTv, BASEv]⟩) := rfl
theorem b_p1 : buildT (.fs ⟨[.slice none 0 0, .slice none 0 0]⟩ ⟨[(0, 1), (1, 1)]⟩) #[(0, V34v)] = some (.agg ⟨[V34v, .slice none 0 0]⟩) := rfl
theorem b_p2 : buildT (.fs ⟨[.slice none 0 0, .slice none 0 0]⟩ ⟨[(0, 1), (1, 1)]⟩) #[(1, GIVv)] = some (.agg ⟨[.slice none 0 0, GIVv]⟩) := rfl
theorem b_p3 : buildT (.fs ⟨[.slice none 0 0, .slice none 0 0]⟩ ⟨[(0, 1), (1, 1)]⟩) #[(0, V56v)] = some (.agg ⟨[V56v, .slice none 0 0]⟩) := rfl
theorem b_dr : buildT (.fs ⟨[.int .i64 0, .slice none 0 0]⟩ ⟨[(0, 1), (1, 1)]⟩) #[(1, PHv)] = some (.agg ⟨[.int .i64 0, PHv]⟩) := rfl
theorem b_rt : buildT (.fs ⟨[.int .i64 0, .int .i64 0, .int .i64 0, .slice none 0 0, .int .i64 0, .int .i64 0, .bool false]⟩ ⟨[(0, 1), (1, 1), (2, 2), (4, 1), (5, 1), (6, 1)]⟩) #[(0, .int .i64 1), (2, .agg ⟨[.int .i64 0, PHv]⟩)] = some (.agg ⟨[.int .i64 1, .int .i64 0, .int .i64 0, PHv, .int .i64 0, .int .i64 0, .bool false]⟩) := rfl
theorem sTW : settled depth (.agg ⟨[.slice none 0 0, .slice none 0 0, .slice none 0 0, .slice none 0 0, .slice none 0 0, .slice none 0 0, .slice none 0 0, .int .i64 0, .slice none 0 0, .slice none 0 0, .slice none 0 0, BUILTv, BASEv]⟩) = true := rfl
theorem sCAP : settled depth (.agg ⟨[.string ⟨⟨[99]⟩⟩, .int .i64 0, .int .i64 10, CSv]⟩) = true := rfl
theorem sRTS : settled depth RTSv = true := rfl
theorem rTW (h : Heap) : reifyC E.P 7 h [.slice none 0 0, .slice none 0 0, .slice none 0 0, .slice none 0 0, .slice none 0 0, .slice none 0 0, .slice none 0 0, .int .i64 0, .slice none 0 0, .slice none 0 0, .slice none 0 0, BUILTv, BASEv] = some [.slice none 0 0, .slice none 0 0, .slice none 0 0, .slice none 0 0, .slice none 0 0, .slice none 0 0, .slice none 0 0, .int .i64 0, .slice none 0 0, .slice none 0 0, .slice none 0 0, BUILTv, BASEv] := rfl
theorem rCAP (h : Heap) : reifyC E.P 7 h [.string ⟨⟨[99]⟩⟩, .int .i64 0, .int .i64 10, CSv] = some [.string ⟨⟨[99]⟩⟩, .int .i64 0, .int .i64 10, CSv] := rfl
theorem rRTS (h : Heap) : reify E.P 8 h RTSv = some RTSv := rfl
theorem ixPH0 : indexAddrT (.sl 77 ⟨some true, some 2⟩) PHv (.int .i64 0) = some (cptr (.agg ⟨[V34v, .slice none 0 0]⟩)) := rfl
theorem rP0 (h : Heap) : reifyC E.P 7 h [V34v, .slice none 0 0] = some [V34v, .slice none 0 0] := rfl
theorem ixPH1 : indexAddrT (.sl 77 ⟨some true, some 2⟩) PHv (.int .i64 1) = some (cptr (.agg ⟨[.slice none 0 0, GIVv]⟩)) := rfl
theorem rP1 (h : Heap) : reifyC E.P 7 h [.slice none 0 0, GIVv] = some [.slice none 0 0, GIVv] := rfl
theorem ixPH2 : indexAddrT (.sl 77 ⟨some true, some 2⟩) PHv (.int .i64 2) = some (cptr (.agg ⟨[V56v, .slice none 0 0]⟩)) := rfl
theorem rP2 (h : Heap) : reifyC E.P 7 h [V56v, .slice none 0 0] = some [V56v, .slice none 0 0] := rfl
theorem c_load : pureCall E.P (L E) 10 [.agg ⟨[.slice none 0 0, .slice none 0 0, .slice none 0 0, .slice none 0 0, .slice none 0 0, .slice none 0 0, .slice none 0 0, .int .i64 0, .slice none 0 0, .slice none 0 0, .slice none 0 0, BUILTv, BASEv]⟩, .agg ⟨[.string ⟨⟨[99]⟩⟩, .int .i64 0, .int .i64 10, CSv]⟩] = some (.int .i64 5) := (loadT_spec tS tS_few cS (by decide : cS.cs.length ≤ 1000000)).trans (by rw [v_load])
theorem c_ph0 : pureCall E.P (L E) 18 [.agg ⟨[.slice none 0 0, .slice none 0 0, .slice none 0 0, .slice none 0 0, .slice none 0 0, .slice none 0 0, .slice none 0 0, .int .i64 0]⟩, .agg ⟨[.string ⟨⟨[99]⟩⟩, .int .i64 0, .int .i64 10, CSv]⟩, .agg ⟨[V34v, .slice none 0 0]⟩] = some (.int .i64 4) := (phase_spec tS.p tS_few.p cS (by decide : cS.cs.length ≤ 1000000) f1 (rS_tiny.few.ph.ok _ (by simp [rS])) (rS_tiny.few.ph.few _ (by simp [rS]))).trans (by rw [v_f1])
theorem c_ph1 : pureCall E.P (L E) 18 [.agg ⟨[.slice none 0 0, .slice none 0 0, .slice none 0 0, .slice none 0 0, .slice none 0 0, .slice none 0 0, .slice none 0 0, .int .i64 0]⟩, .agg ⟨[.string ⟨⟨[99]⟩⟩, .int .i64 0, .int .i64 10, CSv]⟩, .agg ⟨[.slice none 0 0, GIVv]⟩] = some (.int .i64 (-5)) := (phase_spec tS.p tS_few.p cS (by decide : cS.cs.length ≤ 1000000) f2 (rS_tiny.few.ph.ok _ (by simp [rS])) (rS_tiny.few.ph.few _ (by simp [rS]))).trans (by rw [v_f2])
theorem c_ph2 : pureCall E.P (L E) 18 [.agg ⟨[.slice none 0 0, .slice none 0 0, .slice none 0 0, .slice none 0 0, .slice none 0 0, .slice none 0 0, .slice none 0 0, .int .i64 0]⟩, .agg ⟨[.string ⟨⟨[99]⟩⟩, .int .i64 0, .int .i64 10, CSv]⟩, .agg ⟨[V56v, .slice none 0 0]⟩] = some (.int .i64 6) := (phase_spec tS.p tS_few.p cS (by decide : cS.cs.length ≤ 1000000) f3 (rS_tiny.few.ph.ok _ (by simp [rS])) (rS_tiny.few.ph.few _ (by simp [rS]))).trans (by rw [v_f3])
theorem c_peak : pureCall E.P (L E) 9 [.agg ⟨[.slice none 0 0, .slice none 0 0, .slice none 0 0, .slice none 0 0, .slice none 0 0, .slice none 0 0, .slice none 0 0, .int .i64 0, .slice none 0 0, .slice none 0 0, .slice none 0 0, BUILTv, BASEv]⟩, RTSv, .agg ⟨[.string ⟨⟨[99]⟩⟩, .int .i64 0, .int .i64 10, CSv]⟩] = some (.agg ⟨[.string ⟨⟨[99]⟩⟩, .int .i64 5, lst false [.int .i64 5]]⟩) := (peak_spec tS tS_few cS (by decide : cS.cs.length ≤ 1000000) (some true) [rS] tS_tiny1.rs).trans (by rw [v_load]; show some (pkV ⟨_, _, _, topsR tS cS [rS]⟩) = _; rw [v_tops1]; rfl)
theorem c_slack1 : pureCall E.P (L E) 11 [.agg ⟨[.slice none 0 0, .slice none 0 0, .slice none 0 0, .slice none 0 0, .slice none 0 0, .slice none 0 0, .slice none 0 0, .int .i64 0, .slice none 0 0, .slice none 0 0, .slice none 0 0, BUILTv, BASEv]⟩, RTSv, .agg ⟨[.string ⟨⟨[99]⟩⟩, .int .i64 0, .int .i64 10, CSv]⟩] = some (.int .i64 0) := (slack_spec tS tS_few cS (by decide : cS.cs.length ≤ 1000000) (some true) [rS] tS_tiny1.rs).trans (by rw [tS_tiny1.slack cS (by decide) (by decide), v_load, v_tops1]; rfl)
theorem c_slack0 : pureCall E.P (L E) 11 [.agg ⟨[.slice none 0 0, .slice none 0 0, .slice none 0 0, .slice none 0 0, .slice none 0 0, .slice none 0 0, .slice none 0 0, .int .i64 0, .slice none 0 0, .slice none 0 0, .slice none 0 0, BUILTv, BASEv]⟩, .slice none 0 0, .agg ⟨[.string ⟨⟨[99]⟩⟩, .int .i64 0, .int .i64 10, CSv]⟩] = some (.int .i64 5) := (slack_spec tS tS_few cS (by decide : cS.cs.length ≤ 1000000) none [] tS_tiny0.rs).trans (by rw [tS_tiny0.slack cS (by decide) (by decide), v_load]; rfl)
theorem c_worst : pureCall E.P (L E) 8 [.agg ⟨[.slice none 0 0, .slice none 0 0, .slice none 0 0, .slice none 0 0, .slice none 0 0, .slice none 0 0, .slice none 0 0, .int .i64 0, .slice none 0 0, .slice none 0 0, .slice none 0 0, BUILTv, BASEv]⟩, RTSv, .agg ⟨[.string ⟨⟨[99]⟩⟩, .int .i64 0, .int .i64 10, CSv]⟩] = some (.tuple ⟨[.int .i64 10, .int .i64 0]⟩) := (worst_spec tS tS_few cS (by decide : cS.cs.length ≤ 1000000) (some true) [rS] tS_tiny1.ti).trans (by rw [v_load]; show some (match (runS true [5] [loadsR tS.p.ts cS rS]).2 with | (S, true) => Value.tuple ⟨[.int .i64 (maxF (S.headD 0) S.tail), .int .i64 0]⟩ | (_, false) => .tuple ⟨[.int .i64 0, .int .i64 6]⟩) = _; rw [v_loads]; kernel_rfl)
theorem c_chk1 : pureCall E.P (L E) 21 [.agg ⟨[.slice none 0 0, .slice none 0 0, .slice none 0 0, .slice none 0 0, .slice none 0 0, .slice none 0 0, .slice none 0 0, .int .i64 0, .slice none 0 0, .slice none 0 0, .slice none 0 0, BUILTv, BASEv]⟩, RTSv, .agg ⟨[.string ⟨⟨[99]⟩⟩, .int .i64 0, .int .i64 10, CSv]⟩, .agg ⟨[.string ⟨⟨[99]⟩⟩, .int .i64 5, lst false [.int .i64 5]]⟩] = some (.int .i64 0) := (check_spec32 tS tS_few cS (by decide : cS.cs.length ≤ 1000000) (some true) [rS] tS_tiny1.rs ⟨nC, 5, some false, [5]⟩ Enc.ok_some (by decide)).trans (by unfold chkV; rw [if_pos ⟨rfl, v_load.symm, v_tops1.symm⟩])
theorem c_chk0 : pureCall E.P (L E) 21 [.agg ⟨[.slice none 0 0, .slice none 0 0, .slice none 0 0, .slice none 0 0, .slice none 0 0, .slice none 0 0, .slice none 0 0, .int .i64 0, .slice none 0 0, .slice none 0 0, .slice none 0 0, BUILTv, BASEv]⟩, .slice none 0 0, .agg ⟨[.string ⟨⟨[99]⟩⟩, .int .i64 0, .int .i64 10, CSv]⟩, .agg ⟨[.string ⟨⟨[99]⟩⟩, .int .i64 5, lst false [.int .i64 5]]⟩] = some (.int .i64 19) := (check_spec32 tS tS_few cS (by decide : cS.cs.length ≤ 1000000) none [] tS_tiny0.rs ⟨nC, 5, some false, [5]⟩ Enc.ok_some (by decide)).trans (by unfold chkV; rw [if_neg (fun h => absurd h.2.2 (by simp [topsR]))])
set_option maxHeartbeats 4000000 in
theorem small32_spec : pureCall E.P (L E) 6 [] = some (.bool true) := by
  have h1 := home1
  have h3 := home3
  have h5 := home5
  have l1 : pureCall E.P (L E) 20 [.int .i64 1125899906842624] = some (.int .i64 1099511627776) := limited_spec32 _
  have l2 : pureCall E.P (L E) 20 [.int .i64 (-7)] = some (.int .i64 (-7)) := limited_spec32 _
  have sIn : ∀ z, settled depth (.int .i64 z) = true := fun _ => rfl
  rw [vol_val] at h1 h3 h5
  unfold homeV at h1 h3 h5
  simp only at h1 h3 h5
  rw [pureCall_fn F6 rfl]
  simp -implicitDefEqProofs [r6, p6, ret1 m19, h1, h3, h5, ret1 m9, ret0 m8, ret0 m10, ret0 m18, ret0 m11, ret0 m21, ret0 m20, l1, l2, sIn, lit_cs, lit_base, lit_built, lit_v34, lit_v56, lit_giv, lit_ph, lit_rt, b_pt0, b_pt1, b_pt2, b_pt3, b_en, b_cap, b_pd, b_tw, b_p1, b_p2, b_p3, b_dr, b_rt, sTW, sCAP, sRTS, rTW, rCAP, rRTS, ixPH0, rP0, ixPH1, rP1, ixPH2, rP2, c_load, c_ph0, c_ph1, c_ph2, c_peak, c_slack1, c_slack0, c_worst, c_chk1, c_chk0]
  done
end Go.Proofs.Ytjkemccfcabhgaa.Bm
namespace Go.Proofs.Ytjkemccfcabhgaa.Bm
open Go Go.RowKit
open Rg (Rect Pt)
open Cw (limited limited_in top)
theorem sp_len (c : Cc) : (spanR.vals c.cs).length = c.cs.length := by unfold Rec.vals; rw [List.length_map]
theorem bin_eqlB (p q : Bool) : aBin E.P .eql 4 (.bool p) (.bool q) = some (.bool (p == q)) := bin_eql_bool (by kernel_rfl)
set_option maxHeartbeats 4000000 in
theorem worst_law (t : Tw) (l : List Rt) (c : Cc) (ha : Args t (some false) l) : ∃ h', L E 3 [twV t, lst false (rtR.vals l), ccV c] [] 0 = some (.bool true, h') := by
  have sm := small32_spec
  have fw := few_spec32 t (some false) l ha
  have eR : lst false (rtR.vals l) = rtR.o (some false) l := rfl
  have htr := fun h => tw_reify t h
  have st : settled depth (twV t) = true := twC_set t 6
  have sr : settled depth (rtR.o (some false) l) = true := Rec.o_set
  have rr : ∀ h, reify E.P 8 h (rtR.o (some false) l) = some (rtR.o (some false) l) := fun h => Rec.o_reify
  have ll := fun h => Rec.o_len (R := rtR) (h := h) (k := some false) (l := l) Rec.ok_some
  have lc := sp_len c
  have scc : settled depth (ccV c) = true := rfl
  have hload := fun (k : Tiny t (some false) l) (h : c.cs.length ≤ 1000000) => loadT_spec t k.tw c h
  have hworst := fun (k : Tiny t (some false) l) (h : c.cs.length ≤ 1000000) => worst_spec t k.tw c h (some false) l k.ti
  have hpeak := fun (k : Tiny t (some false) l) (h : c.cs.length ≤ 1000000) => peak_spec t k.tw c h (some false) l k.rs
  have hslack := fun (k : Tiny t (some false) l) (h : c.cs.length ≤ 1000000) => slack_spec t k.tw c h (some false) l k.rs
  rw [eR, L_fn F3 rfl]
  have sc : settled depth (lst c.x (spanR.vals c.cs)) = true := rfl
  have ccs : ∀ h, reify E.P 8 h (ccV c) = some (ccV c) := fun h => rfl
  have eR2 : ∀ W : List Int, pkV ⟨c.nm, loadT32 t c, some false, W⟩ = .agg ⟨[.string c.nm, .int .i64 (loadT32 t c), intE.o (some false) W]⟩ := fun W => rfl
  rw [eR2] at hpeak
  have eT : l.map (topR t.p.ts c) = topsR t c l := rfl
  rw [eT] at hpeak
  cases hF : fewB t l
  · rw [hF] at fw
    unfold twV twC ccV ccC at *
    generalize tbR.o t.p.kt t.p.ts = VT at *
    generalize pdR.o t.kb t.bs = VB at *
    generalize entR.o t.ke t.es = VE at *
    generalize rtR.o (some false) l = VL at *
    simp -implicitDefEqProofs [r3, p3, ret0 m6, sm, ret0 m7, htr, rr, fw]
    done
  rw [hF] at fw
  obtain ⟨k, k6, _, _, _⟩ := few_get ha hF
  replace hload := hload k
  replace hworst := hworst k
  replace hpeak := hpeak k
  replace hslack := hslack k
  have ksum := k.sum c
  have kload := k.load c
  have ktops := k.tops c
  have kslack := fun h1 h2 => k.slack c h1 h2
  have lenW : (topsR t c l).length = l.length := by unfold topsR; rw [List.length_map]
  have hwm := fun (b : Bool) (S : List Int) (e : runS true [loadT32 t c] (l.map (loadsR t.p.ts c)) = (b, S, true)) => worst_is e
  have etop : ((l.map (loadsR t.p.ts c)).map top).sum = (topsR t c l).sum := by unfold topsR; rw [List.map_map]; rfl
  rw [etop] at hwm
  unfold twV twC ccV ccC at *
  generalize tbR.o t.p.kt t.p.ts = VT at *
  generalize pdR.o t.kb t.bs = VB at *
  generalize entR.o t.ke t.es = VE at *
  generalize rtR.o (some false) l = VL at *
  generalize loadT32 t c = n0 at *
  generalize topsR t c l = W at *
  generalize runS true [n0] (l.map (loadsR t.p.ts c)) = R at *
  by_cases h1 : c.cs.length ≤ 64
  case neg =>
    have h1' : (64 : Int) < (c.cs.length : Int) := by omega
    simp -implicitDefEqProofs [r3, p3, ret0 m6, sm, ret0 m7, htr, rr, fw, lc, h1']
    done
  have h1' : ¬ (64 : Int) < (c.cs.length : Int) := by omega
  replace hload := hload (by omega)
  replace hworst := hworst (by omega)
  replace hpeak := hpeak (by omega)
  replace hslack := hslack (by omega)
  by_cases h2 : c.lim < -1099511627776
  · simp -implicitDefEqProofs [r3, p3, ret0 m6, sm, ret0 m7, htr, rr, fw, lc, h1', h2]
    done
  by_cases h3 : 1099511627776 < c.lim
  · simp -implicitDefEqProofs [r3, p3, ret0 m6, sm, ret0 m7, htr, rr, fw, lc, h1', h2, h3]
    done
  have kslack := kslack (by omega) (by omega)
  obtain ⟨b, S, ok⟩ := R
  cases ok
  · simp -implicitDefEqProofs [r3, p3, ret0 m6, sm, ret0 m7, htr, rr, fw, lc, h1', h2, h3, ret0 m8, hworst, ccs]
    done
  have hwm := hwm b S rfl
  have lI := fun h => Enc.o_len (O := intE) (h := h) (k := some false) (l := W) Enc.ok_some
  have iI := fun (i : Nat) (hi : i < W.length) => Enc.index_o (O := intE) (t := 3) (k := .i64) (x := some false) (l := W) Enc.ok_some hi
  rw [lenW] at lI
  simp only at hworst
  rw [hwm] at hworst
  generalize intE.o (some false) W = VW at *
  simp -implicitDefEqProofs [r3, p3, ret0 m6, sm, ret0 m7, htr, rr, fw, lc, h1', h2, h3, ret0 m8, hworst, ccs, ret1 m9, hpeak, st, sr, scc, ret0 m10, hload, lI, ll]
  rw [LL_for (γ := Int) W n0 (fun i z => [(11, .int .i64 z), (12, .int .i64 i)]) (fun _ _ => [twO t VT VB VE, ccO c, pkF c.nm n0 VW]) (fun i rest z => (.exit 0, [(11, .int .i64 (z + rest.sum)), (12, undef)], [twO t VT VB VE, ccO c, pkF c.nm n0 VW])) (fun i z => -500000000000000 ≤ z ∧ z ≤ 1000000000000000 + (i : Int) * 900000000000000) (by omega) (by omega)]
  · rw [kslack] at hslack
    unfold pkF twO ccO
    by_cases q : n0 + W.sum ≤ c.lim
    · have q2 : W.sum ≤ c.lim - n0 := by omega
      simp -implicitDefEqProofs [k3_12, ret0 m11, hslack, htr, rr, ccs, q, q2, bin_eqlB]
      done
    · have q2 : ¬ W.sum ≤ c.lim - n0 := by omega
      simp -implicitDefEqProofs [k3_12, ret0 m11, hslack, htr, rr, ccs, q, q2, bin_eqlB]
      done
  · simp -implicitDefEqProofs [k3_12]
  · rfl
  · intro nx i z hi _
    rw [List.sum_nil, Int.add_zero]
    unfold pkF twO ccO
    simp -implicitDefEqProofs [r3_12, k3_12, hi, lI, lenW, trim_le]
    done
  · intro nx i v rest z hi hv hd hw hz ih
    have hi2 : ((i : Int) < l.length) := by omega
    have x1 := iI i hi
    rw [hv, iE] at x1
    have hm : v ∈ W := by rw [← hv]; exact List.getElem_mem hi
    have hb := ktops v hm
    have hlen := k.len
    have hs : W.length ≤ 10 := by omega
    have ih := ih (z + v) (by omega)
    have hneg : ¬ v < 0 := by omega
    have e1 : IntKind.i64.wrap (z + v) = z + v := wrap64 (by omega) (by omega)
    rw [List.sum_cons, ← Int.add_assoc]
    unfold pkF twO ccO at *
    simp -implicitDefEqProofs [k3_12] at ih
    simp -implicitDefEqProofs [r3_12, k3_12, hi2, lI, x1, hneg, e1, hw, trim_le]
    with_reducible exact ih
end Go.Proofs.Ytjkemccfcabhgaa.Bm
