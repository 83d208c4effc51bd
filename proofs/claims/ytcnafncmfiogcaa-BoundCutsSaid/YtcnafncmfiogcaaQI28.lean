/-
  Chapter 26: where the descendants of a node end, and the choice of a node, walked. Conditions: the tree of a search.
-/
import Derived.Test.YtcnafncmfiogcaaQI27
import Derived.Test.YtcnafncmfiogcaaQI23
namespace Go.Proofs.Ytcnafncmfiogcaa.Bm
open Go Go.RowKit
open Rg (Rect areaL)
open Cp (Q Nd Br nameB limS limQ mayQ prQ validQ badP hasP bitB next run root take us conts reach prv forest kidsL chk lows)
def okA (P : Rooms) (p : Pb) : Option (List Int) := match areasF (lists P) with
  | some A => if validQ p.q = true then some A else none
  | none => none
theorem okA_some {P : Rooms} {p : Pb} {A : List Int} (h : okA P p = some A) : areasF (lists P) = some A ∧ validQ p.q = true := by
  unfold okA at h
  cases ha : areasF (lists P) with
  | none => rw [ha] at h; cases h
  | some B =>
    rw [ha] at h
    by_cases hv : validQ p.q = true
    · have h : (if validQ p.q = true then some B else none) = some A := h
      rw [if_pos hv] at h
      exact ⟨h, hv⟩
    · have h : (if validQ p.q = true then some B else none) = some A := h
      rw [if_neg hv] at h; cases h
theorem okA_none {P : Rooms} {p : Pb} (h : okA P p = none) : areasF (lists P) = none ∨ validQ p.q = false := by
  unfold okA at h
  cases ha : areasF (lists P) with
  | none => exact .inl rfl
  | some B =>
    rw [ha] at h
    have h : (if validQ p.q = true then some B else none) = none := h
    by_cases hv : validQ p.q = true
    · rw [if_pos hv] at h; cases h
    · exact .inr (by simpa using hv)
theorem okA_bq {P : Rooms} {p : Pb} (hp : PbOk p) {A : List Int} (h : okA P p = some A) : AOk A ∧ Bq p.q A (bpOf p.q A) ∧ (∀ a ∈ A, 0 ≤ a) ∧ 0 ≤ p.q.most := by
  obtain ⟨h1, h2⟩ := okA_some h
  obtain ⟨k1, k2⟩ := areas_told h1
  exact ⟨⟨by omega, fun a ha => by have := k2 a ha; omega⟩, bp_of h2 hp.m.2 A, fun a ha => by have := k2 a ha; omega, validQ_most h2⟩
theorem read_ok (x : Bool) (P : Rooms) (hP : RoomsOk P) (p : Pb) (hp : PbOk p) : pureCall E.P (L E) 52 [roomsV x P, .agg ⟨p.cells⟩] =
    some (match okA P p with | some A => .tuple ⟨[bpV (bpOf p.q A), .bool true]⟩ | none => .tuple ⟨[.pointer none, .bool false]⟩) := by
  have h := read_spec x P hP p hp
  have pe : p.val = .agg ⟨p.cells⟩ := rfl
  rw [pe] at h
  rw [h]
  unfold okA
  cases areasF (lists P) with
  | none => rfl
  | some A =>
    cases hv : validQ p.q
    · simp only [Bool.false_eq_true, ↓reduceIte]; rfl
    · simp only [↓reduceIte]
def reachV (P : Cp.Pr) (A c : List Int) : List Value := match run P (root P A) c with
  | none => [.int .i64 0, .int .i64 18]
  | some t => [.int .i64 (reach P t), .int .i64 0]
theorem two_st {o : AObj} {y z : BS} (hy : y.U.length = 6) (hz : z.U.length = 6) : storeT (some 9) [o, .cells 84 y.c 0] 0 z.V (.pointer (some ⟨1, 0, none⟩)) = some [o, .cells 84 z.c 0] :=
  (obj_put (h := [o, .cells 84 y.c 0]) (b := 1) (n := 9) (lo := 0) (t := 84) (c := y.c) rfl (bs_len hy) (bs_len hz) (by decide) (Nat.zero_le _)).trans rfl
theorem two_ld {o : AObj} {z : BS} (hz : z.U.length = 6) : loadT ⟨some true, some 9⟩ [o, .cells 84 z.c 0] (.pointer (some ⟨1, 0, none⟩)) = some z.V := obj_all (b := 1) rfl (bs_len hz)
theorem two_ld6 {o : AObj} {z : BS} (hz : z.U.length = 6) : loadT ⟨some false, some 1⟩ [o, .cells 84 z.c 0] (.pointer (some ⟨1, 6, none⟩)) = some (.int .i64 z.v) := obj_load (b := 1) (j := 6) rfl (bs_get6 hz)
set_option maxHeartbeats 1000000 in
theorem bReach_spec (x : Bool) (P : Rooms) (hP : RoomsOk P) (p : Pb) (hp : PbOk p) (kc : Option Bool) (c : List Int) (hkc : Enc.Ok kc c) (hc : c.length ≤ 1000000) :
    pureCall E.P (L E) 25 [roomsV x P, p.val, intE.o kc c] = some (.tuple ⟨match okA P p with | none => [.int .i64 0, .int .i64 1] | some A => reachV (prQ p.q) A c⟩) := by
  have rd := read_ok x P hP p hp
  have sR : settled depth (roomsV x P) = true := rfl
  have rR : ∀ h, reify E.P 8 h (roomsV x P) = some (roomsV x P) := fun h => rfl
  have pe : p.val = .agg ⟨p.cells⟩ := rfl
  have ps7 : settled depth (.agg ⟨p.cells⟩) = true := p.set
  have lp : ∀ t, loadT ⟨some true, some 4⟩ (AObj.cells 26 p.cells 0 :: t) (.pointer (some ⟨0, 0, none⟩)) = some (.agg ⟨p.cells⟩) := fun t => obj_all (b := 0) rfl rfl
  rw [pureCall_fn F25 rfl, pe]
  cases ho : okA P p with
  | none =>
    rw [ho] at rd
    generalize roomsV x P = RV at *
    simp -implicitDefEqProofs [r25, p25, lp, ret1 m52, sR, ps7, rd]
  | some A =>
    rw [ho] at rd
    have rd : pureCall E.P (L E) 52 [roomsV x P, .agg ⟨p.cells⟩] = some (.tuple ⟨[bpV (bpOf p.q A), .bool true]⟩) := rd
    obtain ⟨hA, hq, _, _⟩ := okA_bq hp ho
    have hAb : AOk (bpOf p.q A).A := hA
    have fo := follow_spec (bpOf p.q A) hq.l hAb kc c hkc hc
    have fr := fol_rel hA hq c (root_bs p.q A)
    have fw := folB_w (b := bpOf p.q A) hAb c (bs0_w _)
    have br := breach_spec (bpOf p.q A) hq.l hAb
    have rB : ∀ h, reify E.P 8 h (bpV (bpOf p.q A)) = some (bpV (bpOf p.q A)) := fun h => rfl
    have rc : ∀ h, reify E.P 8 h (intE.o kc c) = some (intE.o kc c) := fun h => Enc.o_reify
    generalize hbB : bpV (bpOf p.q A) = B at *
    generalize roomsV x P = RV at *
    generalize intE.o kc c = CV at *
    generalize hy : folB (bpOf p.q A) bs0 c = y at *
    obtain ⟨y, ok⟩ := y
    simp only at fo fr fw
    have st := two_st (o := AObj.cells 26 p.cells 0) (y := zB) (z := y) rfl fw.u
    have ez : zB.c = [.int .i64 0, .int .i64 0, .int .i64 0, .int .i64 0, .int .i64 0, .int .i64 0, .int .i64 0, .int .i64 0, .int .i64 0] := rfl
    rw [ez] at st
    have ld := two_ld (o := AObj.cells 26 p.cells 0) (z := y) fw.u
    have ry := fun h => bs_reify y h 6
    show _ = some (Value.tuple ⟨reachV (prQ p.q) A c⟩)
    unfold reachV
    cases hr : run (prQ p.q) (root (prQ p.q) A) c with
    | none =>
      rw [hr] at fr
      have e : ok = false := fr.1
      subst e
      simp -implicitDefEqProofs [r25, p25, lp, ret1 m52, sR, ps7, rd, ret0 m53, rB, rc, fo, bs_flat, st]
    | some t =>
      rw [hr] at fr
      have e : ok = true := fr.1
      subst e
      have bs := fr.2 t rfl
      have br := br y fw
      rw [reach_rel hq bs] at br
      simp -implicitDefEqProofs [r25, p25, lp, ret1 m52, sR, ps7, rd, ret0 m53, ret0 m54, rB, rc, fo, bs_flat, st, ld, ry, br]
def tightenV : Option (List Br) → List Value
  | none => [.slice none 0 0, .int .i64 19]
  | some o => [lst false (brR.vals o), .int .i64 0]
set_option maxHeartbeats 1000000 in
theorem bTighten_spec (x : Bool) (P : Rooms) (hP : RoomsOk P) (p : Pb) (hp : PbOk p) (k : Option Bool) (T : List Br) (hk : Rec.Ok k T) (hT : T.length ≤ 1000000) :
    pureCall E.P (L E) 27 [roomsV x P, p.val, brR.o k T] = some (.tuple ⟨match okA P p with | none => [.slice none 0 0, .int .i64 1] | some A => tightenV (Cp.tight (prQ p.q) A T)⟩) := by
  have rd := read_ok x P hP p hp
  have sR : settled depth (roomsV x P) = true := rfl
  have pe : p.val = .agg ⟨p.cells⟩ := rfl
  have ps7 : settled depth (.agg ⟨p.cells⟩) = true := p.set
  have lp : ∀ t, loadT ⟨some true, some 4⟩ (AObj.cells 26 p.cells 0 :: t) (.pointer (some ⟨0, 0, none⟩)) = some (.agg ⟨p.cells⟩) := fun t => obj_all (b := 0) rfl rfl
  rw [pureCall_fn F27 rfl, pe]
  cases ho : okA P p with
  | none =>
    rw [ho] at rd
    generalize roomsV x P = RV at *
    simp -implicitDefEqProofs [r27, p27, lp, ret1 m52, sR, ps7, rd]
  | some A =>
    rw [ho] at rd
    have rd : pureCall E.P (L E) 52 [roomsV x P, .agg ⟨p.cells⟩] = some (.tuple ⟨[bpV (bpOf p.q A), .bool true]⟩) := rd
    obtain ⟨hA, hq, _, _⟩ := okA_bq hp ho
    have pv := proven_spec hA hq k T hk hT
    have sB : settled depth (bpV (bpOf p.q A)) = true := rfl
    have sT : settled depth (brR.o k T) = true := Rec.o_set
    generalize bpV (bpOf p.q A) = B at *
    generalize roomsV x P = RV at *
    generalize brR.o k T = TV at *
    show _ = some (Value.tuple ⟨tightenV (Cp.tight (prQ p.q) A T)⟩)
    cases ht : Cp.tight (prQ p.q) A T with
    | none =>
      rw [ht] at pv
      unfold tightV at pv
      simp -implicitDefEqProofs [r27, p27, lp, ret1 m52, sR, ps7, rd, ret1 m57, sB, sT, pv, tightenV]
    | some o =>
      rw [ht] at pv
      unfold tightV at pv
      simp -implicitDefEqProofs [r27, p27, lp, ret1 m52, sR, ps7, rd, ret1 m57, sB, sT, pv, tightenV]
theorem tight_len {P : Cp.Pr} {A : List Int} {T o : List Br} (h : Cp.tight P A T = some o) : o.length = T.length ∧ o ≠ [] := by
  have h1 := congrArg List.length (Cp.tight_read h)
  have h2 : o.length = T.length := by simpa [kidsL] using h1
  refine ⟨h2, fun e => ?_⟩
  subst e
  have : T = [] := List.eq_nil_of_length_eq_zero h2.symm
  subst this
  obtain ⟨_, m, hm⟩ := Cp.tight_iff.1 h
  rw [Cp.prv_nil] at hm; cases hm
theorem lows_cons (x y : Br) (l o : List Br) : lows (x :: l) (y :: o) = (decide (x.bound < y.bound) || lows l o) := rfl
def codeC : Nat → Int
  | 0 => 0
  | 1 => 18
  | _ => 19
theorem brV_index (k : Option Bool) (T : List Br) (hk : Rec.Ok k T) (i : Nat) (hi : i < T.length) : indexAddrT (.sl 41 ⟨some true, some 2⟩) (brR.o k T) (.int .i64 (i : Int)) = some (cptr (.agg ⟨[.int .i64 T[i].kids, .int .i64 T[i].bound]⟩)) := Rec.o_index (R := brR) rfl hk hi
theorem br_f1 (a b : Int) : fieldAddrT ⟨some true, some 2⟩ (some (1, ⟨some false, some 1⟩)) (cptr (.agg ⟨[.int .i64 a, .int .i64 b]⟩)) = some (cptr (.int .i64 b)) := rfl
theorem br_f0 (a b : Int) : fieldAddrT ⟨some true, some 2⟩ (some (0, ⟨some false, some 1⟩)) (cptr (.agg ⟨[.int .i64 a, .int .i64 b]⟩)) = some (cptr (.int .i64 a)) := rfl
set_option maxHeartbeats 2000000 in
theorem bCheck_spec (x : Bool) (P : Rooms) (hP : RoomsOk P) (p : Pb) (hp : PbOk p) (kc : Option Bool) (c : List Int) (hkc : Enc.Ok kc c) (hc : c.length ≤ 1000000) (v : Int) (k : Option Bool) (T : List Br) (hk : Rec.Ok k T) (hT : T.length ≤ 1000000) :
    pureCall E.P (L E) 30 [roomsV x P, p.val, intE.o kc c, .int .i64 v, brR.o k T] = some (.int .i64 (match okA P p with | none => 1 | some A => codeC (chk (prQ p.q) A c v T))) := by
  have rd := read_ok x P hP p hp
  have sR : settled depth (roomsV x P) = true := rfl
  have pe : p.val = .agg ⟨p.cells⟩ := rfl
  have ps7 : settled depth (.agg ⟨p.cells⟩) = true := p.set
  have lp : ∀ t, loadT ⟨some true, some 4⟩ (AObj.cells 26 p.cells 0 :: t) (.pointer (some ⟨0, 0, none⟩)) = some (.agg ⟨p.cells⟩) := fun t => obj_all (b := 0) rfl rfl
  rw [pureCall_fn F30 rfl, pe]
  cases ho : okA P p with
  | none =>
    rw [ho] at rd
    have fp : flat (.pointer none) = true := rfl
    generalize roomsV x P = RV at *
    simp -implicitDefEqProofs [r30, p30, lp, ret1 m52, sR, ps7, rd]
  | some A =>
    rw [ho] at rd
    have rd : pureCall E.P (L E) 52 [roomsV x P, .agg ⟨p.cells⟩] = some (.tuple ⟨[bpV (bpOf p.q A), .bool true]⟩) := rd
    obtain ⟨hA, hq, _, _⟩ := okA_bq hp ho
    have hAb : AOk (bpOf p.q A).A := hA
    have fo := follow_spec (bpOf p.q A) hq.l hAb kc c hkc hc
    have fr := fol_rel hA hq c (root_bs p.q A)
    have fw := folB_w (b := bpOf p.q A) hAb c (bs0_w _)
    have pv := proven_spec hA hq k T hk hT
    have sB : settled depth (bpV (bpOf p.q A)) = true := rfl
    have sT : settled depth (brR.o k T) = true := Rec.o_set
    have rB : ∀ h, reify E.P 8 h (bpV (bpOf p.q A)) = some (bpV (bpOf p.q A)) := fun h => rfl
    have rc : ∀ h, reify E.P 8 h (intE.o kc c) = some (intE.o kc c) := fun h => Enc.o_reify
    have ixT := brV_index k T hk
    have bT : ∀ d n, below (d + 1) n (brR.o k T) = true := fun d n => Rec.o_bel
    generalize hbB : bpV (bpOf p.q A) = B at *
    generalize roomsV x P = RV at *
    generalize intE.o kc c = CV at *
    generalize brR.o k T = TV at *
    generalize hy : folB (bpOf p.q A) bs0 c = y at *
    obtain ⟨y, ok⟩ := y
    simp only at fo fr fw
    have st := two_st (o := AObj.cells 26 p.cells 0) (y := zB) (z := y) rfl fw.u
    have ez : zB.c = [.int .i64 0, .int .i64 0, .int .i64 0, .int .i64 0, .int .i64 0, .int .i64 0, .int .i64 0, .int .i64 0, .int .i64 0] := rfl
    rw [ez] at st
    have l6 := two_ld6 (o := AObj.cells 26 p.cells 0) (z := y) fw.u
    show _ = some (Value.int .i64 (codeC (chk (prQ p.q) A c v T)))
    unfold chk
    cases hr : run (prQ p.q) (root (prQ p.q) A) c with
    | none =>
      rw [hr] at fr
      have e : ok = false := fr.1
      subst e
      simp -implicitDefEqProofs [r30, p30, lp, ret1 m52, sR, ps7, rd, ret0 m53, rB, rc, fo, bs_flat, st, codeC]
    | some t =>
      rw [hr] at fr
      have e : ok = true := fr.1
      subst e
      have bs := fr.2 t rfl
      rw [bs.v] at l6
      simp only
      by_cases hv : t.v = v
      case neg =>
        rw [if_neg hv]
        simp -implicitDefEqProofs [r30, p30, lp, ret1 m52, sR, ps7, rd, ret0 m53, rB, rc, fo, bs_flat, st, l6, hv, codeC]
      rw [if_pos hv]
      cases ht : Cp.tight (prQ p.q) A T with
      | none =>
        rw [ht] at pv
        unfold tightV at pv
        simp -implicitDefEqProofs [r30, p30, lp, ret1 m52, sR, ps7, rd, ret0 m53, rB, rc, fo, bs_flat, st, l6, hv, ret1 m57, sB, sT, pv, codeC]
      | some o =>
        rw [ht] at pv
        have pv : pureCall E.P (L E) 57 [B, TV] = some (.tuple ⟨[lst false (brR.vals o), .bool true]⟩) := pv
        obtain ⟨hol, hone⟩ := tight_len ht
        have ixO := brV_index (some false) o Rec.ok_some
        have ixO : ∀ (i : Nat) (hi : i < o.length), indexAddrT (.sl 41 ⟨some true, some 2⟩) (lst false (brR.vals o)) (.int .i64 (i : Int)) = some (cptr (.agg ⟨[.int .i64 o[i].kids, .int .i64 o[i].bound]⟩)) := ixO
        have lO : ∀ h, lenT .sl h (lst false (brR.vals o)) = some (.int .i64 o.length) := fun h => Rec.o_len (R := brR) (k := some false) Rec.ok_some
        have h0 : 0 < o.length := List.length_pos_iff.2 hone
        have i0 : indexAddrT (.sl 41 ⟨some true, some 2⟩) (lst false (brR.vals o)) (.int .i64 0) = some (cptr (.agg ⟨[.int .i64 o[0].kids, .int .i64 o[0].bound]⟩)) := ixO 0 h0
        have e0 : o.headD ⟨0, 0⟩ = o[0] := by
          cases o with
          | nil => exact absurd rfl hone
          | cons a l => rfl
        have bO : ∀ d n, below (d + 1) n (lst false (brR.vals o)) = true := fun d n => rfl
        generalize lst false (brR.vals o) = OV at *
        simp only
        rw [e0]
        by_cases hb : v < o[0].bound
        · rw [if_pos (.inl hb)]
          simp -implicitDefEqProofs [r30, p30, lp, ret1 m52, sR, ps7, rd, ret0 m53, rB, rc, fo, bs_flat, st, l6, hv, ret1 m57, sB, sT, pv, i0, hb, codeC]
        · simp -implicitDefEqProofs [r30, p30, lp, ret1 m52, sR, ps7, rd, ret0 m53, rB, rc, fo, bs_flat, st, l6, hv, ret1 m57, sB, sT, pv, i0, hb, lO]
          rw [LL_for (γ := Unit) o () (fun i _ => [(57, .int .i64 i)]) (fun _ _ => [AObj.cells 26 p.cells 0, .cells 84 y.c 0])
            (fun i rest _ => if lows (T.drop i) rest = false then (.exit 0, [(57, undef)], [AObj.cells 26 p.cells 0, .cells 84 y.c 0]) else (.ret, [(10, .int .i64 19), (57, undef)], [AObj.cells 26 p.cells 0, .cells 84 y.c 0])) (fun _ _ => True) (by omega) trivial]
          · rw [List.drop_zero]
            cases hl : lows T o
            · simp -implicitDefEqProofs [k30_11, codeC]
            · simp -implicitDefEqProofs [k30_11, codeC]
          · simp -implicitDefEqProofs [k30_11]
          · rfl
          · intro nx i _ hi _
            have e : ∀ l, lows l [] = false := fun l => by cases l <;> rfl
            rw [e]
            simp -implicitDefEqProofs [r30_11, k30_11, hi, trim_le]
          · intro nx i w rest _ hi hw hd hwi _ ih
            have ih := ih () trivial
            have hi' : (i : Int) < (o.length : Int) := by omega
            have xo := ixO i hi
            rw [hw] at xo
            have hiT : i < T.length := by omega
            have xt := ixT i hiT
            have hdT : T.drop i = T[i] :: T.drop (i + 1) := List.drop_eq_getElem_cons hiT
            rw [hdT, lows_cons]
            by_cases hlt : T[i].bound < w.bound
            · simp -implicitDefEqProofs [r30_11, k30_11, hi', xo, xt, hlt, trim_le]
            · simp -implicitDefEqProofs [k30_11] at ih
              simp -implicitDefEqProofs [r30_11, k30_11, hi', xo, xt, hlt, hwi, trim_le]
              exact ih
end Go.Proofs.Ytcnafncmfiogcaa.Bm
namespace Go.Proofs.Ytcnafncmfiogcaa.Bm
open Go Go.RowKit
open Rg (Rect areaL)
open Cp (Q Nd Br prQ validQ run root reach chk)
theorem neq_br (x y : Br) : aBin E.P .neq 41 (.agg ⟨[.int .i64 x.kids, .int .i64 x.bound]⟩) (.agg ⟨[.int .i64 y.kids, .int .i64 y.bound]⟩) = some (.bool (!decide (x = y))) := by
  rw [neqB]
  obtain ⟨a, b⟩ := x
  obtain ⟨c, d⟩ := y
  rw [show (a == c) = decide (a = c) from rfl, show (b == d) = decide (b = d) from rfl]
  by_cases h1 : a = c <;> by_cases h2 : b = d <;> simp [allOf, h1, h2]
theorem same_spec (k m : Option Bool) (l r : List Br) (hk : Rec.Ok k l) (hm : Rec.Ok m r) (hl : l.length ≤ 1000000) : pureCall E.P (L E) 29 [brR.o k l, brR.o m r] = some (.bool (decide (l = r))) := by
  have ll := fun h => Rec.o_len (R := brR) (h := h) hk
  have lr := fun h => Rec.o_len (R := brR) (h := h) hm
  have il := brV_index k l hk
  have ir := brV_index m r hm
  generalize brR.o k l = VL at *
  generalize brR.o m r = VR at *
  rw [pureCall_fn F29 rfl]
  by_cases hlen : l.length = r.length
  · simp -implicitDefEqProofs [r29, p29, ll, lr, hlen]
    rw [LL_for (γ := Unit) l () (fun i _ => [(5, .int .i64 i)]) (fun _ _ => []) (fun i rest _ => if eqG rest (r.drop i) then (.exit 0, [(5, undef)], []) else (.ret, [(4, .bool false), (5, undef)], [])) (fun _ _ => True) (by omega) trivial]
    · rw [List.drop_zero]
      by_cases q : l = r
      · subst q
        have h : eqG l l = true := decide_eq_true rfl
        simp -implicitDefEqProofs [k29_4, h]
      · have h : eqG l r = false := decide_eq_false q
        simp -implicitDefEqProofs [k29_4, h, q]
    · simp -implicitDefEqProofs [k29_4]
    · rfl
    · intro nx i c hi _
      have hd0 : eqG [] (r.drop i) = true := by rw [List.drop_eq_nil_of_le (by omega)]; rfl
      rw [hd0]
      simp -implicitDefEqProofs [r29_4, k29_4, ll, hi, hlen, trim_le]
    · intro nx i v rest c hi hv hd hw _ ih
      have ih := ih () trivial
      have hi' : i < r.length := by omega
      have hi2 : ((i : Int) < r.length) := by omega
      have x1 := il i hi
      have x2 := ir i hi'
      rw [hv] at x1
      have hrd : r.drop i = r[i] :: r.drop (i + 1) := List.drop_eq_getElem_cons hi'
      rw [hrd, eqG_cons]
      simp -implicitDefEqProofs [k29_4] at ih
      have nq := neq_br v r[i]
      by_cases he : v = r[i]
      · rw [decide_eq_true he] at nq
        simp -implicitDefEqProofs [r29_4, k29_4, ll, hi', hlen, x1, x2, nq, hw, decide_eq_true he, trim_le]
        exact ih
      · rw [decide_eq_false he] at nq
        simp -implicitDefEqProofs [r29_4, k29_4, ll, hi', hlen, x1, x2, nq, decide_eq_false he, trim_le]
  · have : ¬ l = r := fun e => hlen (by rw [e])
    have hlen' : ¬ ((l.length : Int) = r.length) := by omega
    simp -implicitDefEqProofs [r29, p29, ll, lr, hlen', this]
def duo : Rooms := [rm 4, rm 2]
def V2 : Value := lst true [lst true [.agg ⟨[.int .i64 0, .int .i64 0, .int .i64 4, .int .i64 1]⟩], lst true [.agg ⟨[.int .i64 0, .int .i64 0, .int .i64 2, .int .i64 1]⟩]]
theorem duo_ok : RoomsOk duo := ⟨fun r hr => by
    simp only [duo, rm, List.mem_cons, List.not_mem_nil, or_false] at hr
    rcases hr with rfl | rfl <;> exact Rec.ok_some, fun r hr => by
    simp only [duo, rm, List.mem_cons, List.not_mem_nil, or_false] at hr
    rcases hr with rfl | rfl <;> decide, by decide⟩
def p26a : Pb := ⟨1, none, [], 100, none, []⟩
def p26b : Pb := ⟨-1, none, [], 0, none, []⟩
theorem p26a_ok : PbOk p26a := ⟨fun _ => rfl, fun _ => rfl, by decide, by decide, by decide, by decide⟩
theorem p26b_ok : PbOk p26b := ⟨fun _ => rfl, fun _ => rfl, by decide, by decide, by decide, by decide⟩
theorem duo_a : okA duo p26a = some [4, 2] := by kernel_rfl
theorem duo_b : okA duo p26b = none := by kernel_rfl
abbrev BV (a b : Int) : Value := .agg ⟨[.int .i64 a, .int .i64 b]⟩
set_option maxRecDepth 100000 in
theorem roomN_spec (n : Int) : pureCall E.P (L E) 51 [.int .i64 n] = some (lst true [.agg ⟨[.int .i64 0, .int .i64 0, .int .i64 n, .int .i64 1]⟩]) := pureCall_le (evF_L 20) (by kernel_rfl)
theorem chk2 (c : List Int) (v : Int) (T : List Br) (x y : Bool) (n : Nat) (h : chk (prQ p26a.q) [4, 2] c v T = n) (hc : c.length ≤ 1000000) (hT : T.length ≤ 1000000) :
    pureCall E.P (L E) 30 [V2, .agg ⟨[.int .i64 1, .slice none 0 0, .int .i64 100, .slice none 0 0]⟩, lst x (intE.vals c), .int .i64 v, lst y (brR.vals T)] = some (.int .i64 (codeC n)) := by
  have := bCheck_spec true duo duo_ok p26a p26a_ok (some x) c Enc.ok_some hc v (some y) T Rec.ok_some hT
  rw [duo_a] at this
  rw [← h]
  exact this
theorem lit_b (h : Heap) (a b : Int) : buildSliceT (some ⟨41, 2, 16, .agg ⟨[.int .i64 0, .int .i64 0]⟩, ⟨some true, some 2⟩⟩) false h 1 #[(0, BV a b)] = some (lst true [BV a b], h) :=
  (build_lit' (n := 1) (l := [(0, BV a b)]) rfl rfl (by decide) (by decide) (by decide)).trans rfl
theorem lit_b3 (h : Heap) (a b c d e f : Int) : buildSliceT (some ⟨41, 2, 16, .agg ⟨[.int .i64 0, .int .i64 0]⟩, ⟨some true, some 2⟩⟩) false h 3 #[(0, BV a b), (1, BV c d), (2, BV e f)] = some (lst true [BV a b, BV c d, BV e f], h) :=
  (build_lit' (n := 3) (l := [(0, BV a b), (1, BV c d), (2, BV e f)]) rfl rfl (by decide) (by decide) (by decide)).trans rfl
theorem br_b1 (b : Int) : buildT (.fs ⟨[.int .i64 0, .int .i64 0]⟩ ⟨[(0, 1), (1, 1)]⟩) #[(1, .int .i64 b)] = some (BV 0 b) := rfl
theorem br_b2 (a b : Int) : buildT (.fs ⟨[.int .i64 0, .int .i64 0]⟩ ⟨[(0, 1), (1, 1)]⟩) #[(0, .int .i64 a), (1, .int .i64 b)] = some (BV a b) := rfl
theorem pb_b1 (a : Int) : buildT (.fs ⟨[.int .i64 0, .slice none 0 0, .int .i64 0, .slice none 0 0]⟩ ⟨[(0, 1), (1, 1), (2, 1), (3, 1)]⟩) #[(0, .int .i64 a)] = some (.agg ⟨[.int .i64 a, .slice none 0 0, .int .i64 0, .slice none 0 0]⟩) := rfl
theorem lit_rr (h : Heap) : buildSliceT (some elRs) false h 2 #[(0, lst true [.agg ⟨[.int .i64 0, .int .i64 0, .int .i64 4, .int .i64 1]⟩]), (1, lst true [.agg ⟨[.int .i64 0, .int .i64 0, .int .i64 2, .int .i64 1]⟩])] = some (V2, h) :=
  (build_lit' (n := 2) (l := [(0, lst true [.agg ⟨[.int .i64 0, .int .i64 0, .int .i64 4, .int .i64 1]⟩]), (1, lst true [.agg ⟨[.int .i64 0, .int .i64 0, .int .i64 2, .int .i64 1]⟩])]) rfl rfl (by decide) (by decide) (by decide)).trans rfl
theorem lit_i1 (h : Heap) (a : Int) : buildSliceT (some elInt) false h 1 #[(0, .int .i64 a)] = some (lst true [.int .i64 a], h) := lit_int h a
set_option maxHeartbeats 2000000 in
theorem small26_spec : pureCall E.P (L E) 24 [] = some (.bool true) := by
  have r4 := roomN_spec 4
  have r2 := roomN_spec 2
  have c1 : pureCall E.P (L E) 30 [V2, .agg ⟨[.int .i64 1, .slice none 0 0, .int .i64 100, .slice none 0 0]⟩, lst true [.int .i64 0, .int .i64 0], .int .i64 6, lst true [BV 1 6, BV 1 6, BV 0 6]] = some (.int .i64 0) := chk2 [0, 0] 6 [⟨1, 6⟩, ⟨1, 6⟩, ⟨0, 6⟩] true true 0 (by kernel_rfl) (by decide) (by decide)
  have c2 : pureCall E.P (L E) 30 [V2, .agg ⟨[.int .i64 1, .slice none 0 0, .int .i64 100, .slice none 0 0]⟩, lst true [.int .i64 0, .int .i64 0], .int .i64 5, lst true [BV 1 6, BV 1 6, BV 0 6]] = some (.int .i64 18) := chk2 [0, 0] 5 [⟨1, 6⟩, ⟨1, 6⟩, ⟨0, 6⟩] true true 1 (by kernel_rfl) (by decide) (by decide)
  have c3 : pureCall E.P (L E) 30 [V2, .agg ⟨[.int .i64 1, .slice none 0 0, .int .i64 100, .slice none 0 0]⟩, lst true [.int .i64 0], .int .i64 4, lst true [BV 1 6, BV 1 6, BV 0 6]] = some (.int .i64 19) := chk2 [0] 4 [⟨1, 6⟩, ⟨1, 6⟩, ⟨0, 6⟩] true true 2 (by kernel_rfl) (by decide) (by decide)
  have c4 : pureCall E.P (L E) 30 [V2, .agg ⟨[.int .i64 1, .slice none 0 0, .int .i64 100, .slice none 0 0]⟩, lst true [.int .i64 0, .int .i64 0], .int .i64 6, lst true [BV 0 6]] = some (.int .i64 0) := chk2 [0, 0] 6 [⟨0, 6⟩] true true 0 (by kernel_rfl) (by decide) (by decide)
  have c5 : pureCall E.P (L E) 30 [V2, .agg ⟨[.int .i64 1, .slice none 0 0, .int .i64 100, .slice none 0 0]⟩, lst true [.int .i64 0, .int .i64 0], .int .i64 6, lst true [BV 0 5]] = some (.int .i64 19) := chk2 [0, 0] 6 [⟨0, 5⟩] true true 2 (by kernel_rfl) (by decide) (by decide)
  have c6 : pureCall E.P (L E) 30 [V2, .agg ⟨[.int .i64 1, .slice none 0 0, .int .i64 100, .slice none 0 0]⟩, lst true [.int .i64 0, .int .i64 0], .int .i64 6, lst true [BV 1 6, BV 0 6, BV 0 6]] = some (.int .i64 19) := chk2 [0, 0] 6 [⟨1, 6⟩, ⟨0, 6⟩, ⟨0, 6⟩] true true 2 (by kernel_rfl) (by decide) (by decide)
  have c7 : pureCall E.P (L E) 30 [V2, .agg ⟨[.int .i64 (-1), .slice none 0 0, .int .i64 0, .slice none 0 0]⟩, lst true [.int .i64 0, .int .i64 0], .int .i64 6, lst true [BV 1 6, BV 1 6, BV 0 6]] = some (.int .i64 1) := by
    have := bCheck_spec true duo duo_ok p26b p26b_ok (some true) [0, 0] Enc.ok_some (by decide) 6 (some true) [⟨1, 6⟩, ⟨1, 6⟩, ⟨0, 6⟩] Rec.ok_some (by decide)
    rw [duo_b] at this
    exact this
  have rc : pureCall E.P (L E) 25 [V2, .agg ⟨[.int .i64 1, .slice none 0 0, .int .i64 100, .slice none 0 0]⟩, lst true [.int .i64 0]] = some (.tuple ⟨[.int .i64 6, .int .i64 0]⟩) := by
    have := bReach_spec true duo duo_ok p26a p26a_ok (some true) [0] Enc.ok_some (by decide)
    rw [duo_a] at this
    have e : reachV (prQ p26a.q) [4, 2] [0] = [.int .i64 6, .int .i64 0] := by kernel_rfl
    have this : pureCall E.P (L E) 25 [V2, .agg ⟨[.int .i64 1, .slice none 0 0, .int .i64 100, .slice none 0 0]⟩, lst true [.int .i64 0]] = some (.tuple ⟨reachV (prQ p26a.q) [4, 2] [0]⟩) := this
    rw [this, e]
  have tg : pureCall E.P (L E) 27 [V2, .agg ⟨[.int .i64 1, .slice none 0 0, .int .i64 100, .slice none 0 0]⟩, lst true [BV 1 6, BV 1 6, BV 0 6]] = some (.tuple ⟨[lst false [BV 1 6, BV 1 6, BV 0 6], .int .i64 0]⟩) := by
    have := bTighten_spec true duo duo_ok p26a p26a_ok (some true) [⟨1, 6⟩, ⟨1, 6⟩, ⟨0, 6⟩] Rec.ok_some (by decide)
    rw [duo_a] at this
    have e : Cp.tight (prQ p26a.q) [4, 2] [⟨1, 6⟩, ⟨1, 6⟩, ⟨0, 6⟩] = some [⟨1, 6⟩, ⟨1, 6⟩, ⟨0, 6⟩] := by kernel_rfl
    have this : pureCall E.P (L E) 27 [V2, .agg ⟨[.int .i64 1, .slice none 0 0, .int .i64 100, .slice none 0 0]⟩, lst true [BV 1 6, BV 1 6, BV 0 6]] = some (.tuple ⟨tightenV (Cp.tight (prQ p26a.q) [4, 2] [⟨1, 6⟩, ⟨1, 6⟩, ⟨0, 6⟩])⟩) := this
    rw [this, e]; rfl
  have sm : pureCall E.P (L E) 29 [lst false [BV 1 6, BV 1 6, BV 0 6], lst true [BV 1 6, BV 1 6, BV 0 6]] = some (.bool true) := same_spec (some false) (some true) [⟨1, 6⟩, ⟨1, 6⟩, ⟨0, 6⟩] [⟨1, 6⟩, ⟨1, 6⟩, ⟨0, 6⟩] Rec.ok_some Rec.ok_some (by decide)
  have sV : settled depth V2 = true := rfl
  have sI : ∀ z, settled depth (.int .i64 z) = true := fun z => rfl
  have sL : ∀ l, settled depth (lst true l) = true := fun l => rfl
  have rV : ∀ h, reify E.P 8 h V2 = some V2 := fun h => rfl
  rw [pureCall_fn F24 rfl]
  generalize hV : V2 = V at *
  have lrr := fun h => lit_rr h
  rw [hV] at lrr
  simp -implicitDefEqProofs [r24, p24, ret1 m51, r4, r2, lrr, pb_b2, pb_b1, sg2, br_b1, br_b2, lit_b, lit_b3, lit_i2, lit_i1, ret0 m25, ret1 m27, ret0 m30, ret0 m29, sV, sI, sL, rV, c1, c2, c3, c4, c5, c6, c7, rc, tg, sm]
end Go.Proofs.Ytcnafncmfiogcaa.Bm
namespace Go.Proofs.Ytcnafncmfiogcaa.Bm
open Go Go.RowKit
open Rg (Rect areaL)
open Cp (Q Nd Br prQ validQ run root reach chk best le2 lows)
inductive BestV (P : Rooms) (p : Pb) (V : List Value) : Prop
  | bad : okA P p = none → V = [.slice none 0 0, .int .i64 0, .slice none 0 0, .int .i64 1] → BestV P p V
  | full : (A : List Int) → okA P p = some A → best (prQ p.q) A = none → V = [.slice none 0 0, .int .i64 0, .slice none 0 0, .int .i64 6] → BestV P p V
  | ok : (A : List Int) → (v : Int) → (c : List Int) → (T : List Br) → (k : Option Bool) → okA P p = some A → best (prQ p.q) A = some (v, c, T) → Enc.Ok k c → V = [intE.o k c, .int .i64 v, lst false (brR.vals T), .int .i64 0] → BestV P p V
theorem best_v (P : Rooms) (hP : RoomsOk P) (p : Pb) (hp : PbOk p) : ∃ V, pureCall E.P (L E) 15 [roomsV false P, .agg ⟨p.cells⟩] = some (.tuple ⟨V⟩) ∧ BestV P p V := by
  cases ho : okA P p with
  | none => exact ⟨_, best_bad false P hP p hp (okA_none ho), .bad ho rfl⟩
  | some A =>
    obtain ⟨h1, h2⟩ := okA_some ho
    obtain ⟨k, hk, h3⟩ := best_ok false P hP p hp A h1 h2
    refine ⟨_, h3, ?_⟩
    cases hb : best (prQ p.q) A with
    | none => exact .full A ho hb rfl
    | some r =>
      obtain ⟨v, c, T⟩ := r
      exact .ok A v c T k ho hb (hk _ hb) rfl
theorem best_run {P : Cp.Pr} (hP : Cp.OnlyUs P) {A : List Int} (hA : ∀ a ∈ A, 0 ≤ a) (hm : 0 ≤ P.most) {v : Int} {c : List Int} {T : List Br} (h : best P A = some (v, c, T)) : c.length ≤ A.length ∧ T.length ≤ 4000 := by
  obtain ⟨⟨t, h1, _⟩, _, _⟩ := Cp.best_told hP hA hm h
  have := (Cp.run_rem h1).2.2
  have e : (root P A).rem = A := rfl
  rw [e] at this
  exact ⟨by omega, (Cp.best_sr h).1⟩
end Go.Proofs.Ytcnafncmfiogcaa.Bm
namespace Go.Proofs.Ytcnafncmfiogcaa.Bm
open Go Go.RowKit
open Rg (Rect areaL)
open Cp (Q Nd Br prQ validQ run root reach chk best le2 lows prv forest conts kidsL)
theorem br_all (T : List Br) : (brR.vals T).all (fun v => (cellsL v).length == 2) = true := Rec.vals_all T
theorem br_take (h : Heap) (T : List Br) (n : Nat) (hn : n ≤ T.length) : sliceT (.sl 41 ⟨some true, some 2⟩) h (lst false (brR.vals T)) none (some (.int .i64 (n : Int))) none = some (lst false (brR.vals (T.take n))) := by
  rw [slice_take (br_all T) (by rw [Rec.vals_len]; exact hn)]
  unfold Rec.vals
  rw [List.map_take]; rfl
theorem br_drop (h : Heap) (T : List Br) (n : Nat) (z : Int) (hz : z = (n : Nat)) (hn : n ≤ T.length) : sliceT (.sl 41 ⟨some true, some 2⟩) h (lst false (brR.vals T)) (some (.int .i64 z)) none none = some (lst false (brR.vals (T.drop n))) := by
  rw [slice_drop (br_all T) hz (by rw [Rec.vals_len]; exact hn)]
  unfold Rec.vals
  rw [List.map_drop]
theorem br_new (h : Heap) (lo : Nat) (st : Bool) (T : List Br) (hT : T ≠ []) (hl : T.length ≤ 1000000) : appendT (some elBr) h lo st (lst true []) (lst false (brR.vals T)) = some (brR.sl h.length T, h ++ [brR.row 41 T]) :=
  app_r0 (R := brR) (el := elBr) rfl (Rec.cells_tree (x := false) rfl T) hT (by show T.length * 16 ≤ 2 ^ 47; omega)
theorem br_more (h : Heap) (b : Nat) (T U : List Br) (x : Bool) (hob : h[b]? = some (brR.row 41 T)) (hl : T.length + U.length ≤ 1000000) : appendT (some elBr) h 0 false (brR.sl b T) (lst x (brR.vals U)) = some (brR.sl b (T ++ U), h.set b (brR.row 41 (T ++ U))) :=
  Rec.app (R := brR) (el := elBr) (t := 41) rfl hob (Rec.cells_tree (x := x) rfl U) (Nat.zero_le _) (by show (T.length + U.length) * 16 ≤ 2 ^ 47; omega)
theorem lit_b0 (h : Heap) : buildSliceT (some elBr) false h 0 ⟨[]⟩ = some (lst true [], h) := build_none.trans rfl
theorem at_rem {at_ : Int} {n : Nat} (h0 : 0 < n) (hn : n ≤ 1000000) : ∃ m i : Nat, i < n ∧ aBin E.P .and 3 (.int .i64 at_) (.int .i64 4611686018427387903) = some (.int .i64 (m : Int)) ∧ aBin E.P .rem 3 (.int .i64 (m : Int)) (.int .i64 (n : Int)) = some (.int .i64 (i : Int)) := by
  obtain ⟨m, hm, h1⟩ := and_mask (P := E.P) (t := 3) at_
  refine ⟨m, m % n, Nat.mod_lt _ h0, h1, ?_⟩
  show (if (n : Int) = 0 then none else some (Value.int .i64 ((m : Int).tmod n))) = _
  rw [if_neg (by omega)]
  rfl
end Go.Proofs.Ytcnafncmfiogcaa.Bm
namespace Go.Proofs.Ytcnafncmfiogcaa.Bm
open Go Go.RowKit
open Rg (Rect areaL)
open Cp (Q Nd Br prQ validQ run root reach chk best next us conts grF inA fitS)
theorem Sq.fitS {q : Q} {A : List Int} {s : Nd} (h : Sq q A s) (hv : validQ q = true) (hA : A.length ≤ 12) (hi : inA A = true) (u : Int) : Cp.fitS q A (s.c ++ [u]) = (Cp.next (prQ q) s u).isSome := by
  rw [← Cp.fit_eq]; exact h.fit hv hA hi u
end Go.Proofs.Ytcnafncmfiogcaa.Bm
namespace Go.Proofs.Ytcnafncmfiogcaa.Bm
open Go Go.RowKit
open Rg (Rect areaL)
open Cp (Q Nd Br prQ validQ run root reach chk best next us conts inA fitS skip endF TrL)
def KidsOk (T : List Br) : Prop := ∀ b ∈ T, 0 ≤ b.kids ∧ b.kids ≤ 6
theorem conts6 (P : Cp.Pr) (s : Nd) : (conts P s).length ≤ 6 := conts_len P s
theorem trL_kids {P : Cp.Pr} {f : Nd → List Br → Prop} (h : ∀ t l, f t l → KidsOk l) : ∀ {ts : List Nd} {L : List Br}, TrL f ts L → KidsOk L
  | [], L, e => by
    have e : L = [] := e
    subst e; exact fun b hb => by cases hb
  | t :: ts, _, ⟨l, L', e, h1, h2⟩ => by
    subst e
    have k1 := h t l h1
    have k2 := trL_kids (P := P) h h2
    intro b hb
    rcases List.mem_append.1 hb with hb | hb
    · exact k1 b hb
    · exact k2 b hb
theorem tr_kids {P : Cp.Pr} {B : Int} : ∀ {n : Nat} {s : Nd} {l : List Br}, Cp.Tr P B n s l → KidsOk l
  | 0, s, l, h => by
    rw [h.1]
    intro b hb
    rw [List.mem_singleton.1 hb]
    exact ⟨Int.le_refl 0, show (0 : Int) ≤ 6 by decide⟩
  | n + 1, s, l, .inl h => by
    rw [h.1]
    intro b hb
    rw [List.mem_singleton.1 hb]
    exact ⟨Int.le_refl 0, show (0 : Int) ≤ 6 by decide⟩
  | n + 1, s, l, .inr ⟨L, e, _, _, hL⟩ => by
    have k := trL_kids (P := P) (fun t l h => tr_kids h) hL
    have h6 := conts6 P s
    rw [e]
    intro b hb
    rcases List.mem_cons.1 hb with rfl | hb
    · show 0 ≤ ((conts P s).length : Int) ∧ ((conts P s).length : Int) ≤ 6
      omega
    · exact k b hb
theorem end_spec (k : Option Bool) (T : List Br) (hk : Rec.Ok k T) (hT : T.length ≤ 4000) (hK : KidsOk T) (i : Nat) : pureCall E.P (L E) 34 [brR.o k T, .int .i64 (i : Int)] = some (.int .i64 (endF T i : Nat)) := by
  have lT := fun h => Rec.o_len (R := brR) (h := h) hk
  have iT := brV_index k T hk
  generalize brR.o k T = V at *
  rw [pureCall_fn F34 rfl]
  generalize hR : endF T i = R
  simp -implicitDefEqProofs [r34, p34]
  rw [LL_rec (α := Int × Nat) (1, i) (fun a => [(1, .int .i64 (a.2 : Int)), (5, .int .i64 a.1)]) (fun _ => []) (fun _ => (.exit 0, [(1, .int .i64 (R : Int)), (5, undef)], []))
    (fun a => 0 ≤ a.1 ∧ a.1 ≤ 6 * (a.2 : Int) + 1 ∧ a.2 + skip a.1 (T.drop a.2) = R) (fun a => T.length - a.2) ⟨by show (0 : Int) ≤ 1; decide, by show (1 : Int) ≤ 6 * (i : Int) + 1; omega, hR⟩]
  · simp -implicitDefEqProofs [k34_2]
  · simp -implicitDefEqProofs [k34_2]
  · rfl
  · intro nx a ha ih
    obtain ⟨o, j⟩ := a
    obtain ⟨g1, g2, g3⟩ := ha
    simp only at g1 g2 g3 ih ⊢
    by_cases h0 : 0 < o
    · by_cases hj : j < T.length
      · have hj' : (j : Int) < (T.length : Int) := by omega
        have xj := iT j hj
        have hb := hK _ (List.getElem_mem hj)
        have hd : T.drop j = T[j] :: T.drop (j + 1) := List.drop_eq_getElem_cons hj
        rw [hd, Cp.skip_cons h0] at g3
        have ih := ih (o - 1 + T[j].kids, j + 1) (by show T.length - (j + 1) < T.length - j; omega) ⟨by show 0 ≤ o - 1 + T[j].kids; omega, by show o - 1 + T[j].kids ≤ 6 * ((j + 1 : Nat) : Int) + 1; omega, by show j + 1 + skip (o - 1 + T[j].kids) (T.drop (j + 1)) = R; omega⟩
        have w1 : IntKind.i64.wrap (o - 1) = o - 1 := wrap64 (by omega) (by omega)
        have w2 : IntKind.i64.wrap (o - 1 + T[j].kids) = o - 1 + T[j].kids := wrap64 (by omega) (by omega)
        have w3 : IntKind.i64.wrap ((j : Int) + 1) = ((j + 1 : Nat) : Int) := (wrap64 (by omega) (by omega)).trans (by omega)
        simp -implicitDefEqProofs [k34_2, -Int.natCast_add] at ih
        simp -implicitDefEqProofs [r34_2, k34_2, h0, lT, hj', xj, br_f0, w1, w2, w3, trim_le, -Int.natCast_add]
        exact ih
      · have hj' : ¬ (j : Int) < (T.length : Int) := by omega
        rw [List.drop_eq_nil_of_le (by omega)] at g3
        have g3 : j = R := g3
        subst g3
        simp -implicitDefEqProofs [r34_2, k34_2, h0, lT, hj', trim_le]
    · have e : o = 0 := by omega
      subst e
      rw [Cp.skip_zero] at g3
      have g3 : j = R := g3
      subst g3
      simp -implicitDefEqProofs [r34_2, k34_2, trim_le]
theorem trL_snoc {f : Nd → List Br → Prop} {w : Nd} {l : List Br} : ∀ {ts : List Nd} {L : List Br}, TrL f ts L → f w l → TrL f (ts ++ [w]) (L ++ l)
  | [], L, e, h => by
    have e : L = [] := e
    subst e
    exact ⟨l, [], (List.append_nil l).symm, h, rfl⟩
  | t :: ts, _, ⟨a, b, e, h1, h2⟩, h => ⟨a, b ++ l, by rw [e, List.append_assoc], h1, trL_snoc h2 h⟩
theorem LL_uz {k : List Nat × List Nat} {b : Body} {σ₀ : Slots} {h₀ : Heap} {α U : Type} (a₀ : α) (up : α → List (Nat × Value)) (H : α → Heap) (e : Exit) (ups : U → List (Nat × Value)) (K : U → Heap → Prop) (I : α → Prop) (ms : α → Nat)
    (hI : I a₀) (e0 : sets (up a₀) (forget k.1 σ₀) = forget k.1 σ₀) (e1 : H a₀ = h₀)
    (step : ∀ F : U → Heap → CRes, (∀ u h', F u h' = fin (forget k.1 σ₀) (e, ups u, h')) → ∀ (nx : Body) a, I a → (∀ a', ms a' < ms a → I a' → ∃ u h', nx (sets (up a') (forget k.1 σ₀)) (H a') = F u h' ∧ K u h') →
      ∃ u h', lopK k.1 k.2 nx (H a).length (b (forget k.1 (sets (up a) (forget k.1 σ₀))) (H a)) = F u h' ∧ K u h') :
    ∃ u h', LL k b σ₀ h₀ = fin (forget k.1 σ₀) (e, ups u, h') ∧ K u h' :=
  LL_ux a₀ up H e ups K I ms hI e0 e1 fun nx a ha ih => step (fun u h' => fin (forget k.1 σ₀) (e, ups u, h')) (fun _ _ => rfl) nx a ha ih
structure PathOk (q : Q) (A : List Int) (B : Int) (T : List Br) (to : Nat) (t : Nd) : Prop where
  at_ : ∃ n pre l post, Cp.Place (prQ q) A B T n t pre l post ∧ pre.length = to
set_option maxHeartbeats 8000000 in
theorem path_spec (p : Pb) (hp : PbOk p) (hv : validQ p.q = true) (A : List Int) (hA12 : A.length ≤ 12) (hin : inA A = true) (B : Int) (T : List Br) (hT : T.length ≤ 4000) (hroot : Cp.Place (prQ p.q) A B T A.length (root (prQ p.q) A) [] T []) (to : Nat) (hto : to < T.length) :
    ∃ kc t, Enc.Ok kc t.c ∧ PathOk p.q A B T to t ∧ pureCall E.P (L E) 35 [lst false (intE.vals A), .agg ⟨p.cells⟩, lst false (brR.vals T), .int .i64 (to : Int)] = some (intE.o kc t.c) := by
  have hK : KidsOk T := tr_kids hroot.tr
  have en := fun i => end_spec (some false) T Rec.ok_some hT hK i
  have en : ∀ i : Nat, pureCall E.P (L E) 34 [lst false (brR.vals T), .int .i64 (i : Int)] = some (.int .i64 (endF T i : Nat)) := en
  have lT : ∀ h, lenT .sl h (lst false (brR.vals T)) = some (.int .i64 T.length) := fun h => Rec.o_len (R := brR) (k := some false) Rec.ok_some
  have rT : ∀ h, reify E.P 8 h (lst false (brR.vals T)) = some (lst false (brR.vals T)) := fun h => rfl
  have rA : ∀ h, reify E.P 8 h (lst false (intE.vals A)) = some (lst false (intE.vals A)) := fun h => rfl
  have bT : ∀ d n, below (d + 1) n (lst false (brR.vals T)) = true := fun d n => rfl
  have bA : ∀ d n, below (d + 1) n (lst false (intE.vals A)) = true := fun d n => rfl
  have fits := fun (s : Nd) (hs : Sq p.q A s) (u : Int) (hu : 0 ≤ u ∧ u < 6) => fits_spec p hp (some false) A (s.c ++ [u]) false Enc.ok_some (by omega) (by have := hs.told.2.2; simp only [List.length_append, List.length_cons, List.length_nil]; omega) (fun w hw => by
    rcases List.mem_append.1 hw with k | k
    · have := hs.us w k; omega
    · rw [List.mem_singleton.1 k]; omega)
  have fits : ∀ (s : Nd) (hs : Sq p.q A s) (u : Int), 0 ≤ u ∧ u < 6 → pureCall E.P (L E) 22 [lst false (intE.vals A), .agg ⟨p.cells⟩, lst false (intE.vals (s.c ++ [u]))] = some (.bool (next (prQ p.q) s u).isSome) := fun s hs u hu => by
    have := fits s hs u hu
    rw [hs.fitS hv hA12 hin] at this
    exact this
  have rcp : ∀ h, reifyC E.P 7 h p.cells = some p.cells := fun h => reifyC_set (pb_all p)
  have lp : ∀ t, loadT ⟨some true, some 4⟩ (AObj.cells 26 p.cells 0 :: t) (.pointer (some ⟨0, 0, none⟩)) = some (.agg ⟨p.cells⟩) := fun t => obj_all (b := 0) rfl rfl
  have bP := pb_bel p
  generalize lst false (intE.vals A) = AV at *
  generalize lst false (brR.vals T) = TV at *
  rw [pureCall_fn F35 rfl]
  simp -implicitDefEqProofs [r35, p35]
  refine ux_goal (G := fun X => ∃ kc t, Enc.Ok kc t.c ∧ PathOk p.q A B T to t ∧ Option.bind (retK [RRes.tmp 8] (seqC E (L E) LL 0 (blkK 0 X) _)) _ = some (intE.o kc t.c))
    (LL_uz (α := Option Bool × Nd × Nat) (U := Option Bool × Nd) (none, root (prQ p.q) A, 0) (fun a => [(9, intE.o a.1 a.2.1.c), (10, .int .i64 (a.2.2 : Int))]) (fun _ => [AObj.cells 26 p.cells 0]) (.exit 0) (fun u => [(9, intE.o u.1 u.2.c), (10, undef)])
      (fun u h' => h' = [AObj.cells 26 p.cells 0] ∧ Enc.Ok u.1 u.2.c ∧ PathOk p.q A B T to u.2)
      (fun a => Enc.Ok a.1 a.2.1.c ∧ a.2.2 ≤ to ∧ ∃ n pre l post, Cp.Place (prQ p.q) A B T n a.2.1 pre l post ∧ pre.length = a.2.2 ∧ to < a.2.2 + l.length) (fun a => to - a.2.2) ?_ ?_ ?_ ?_) ?_
  · exact ⟨Enc.ok_nil, Nat.zero_le _, A.length, [], T, [], hroot, rfl, by simpa using hto⟩
  · simp -implicitDefEqProofs [k35_3, root]
    rfl
  · rfl
  · intro F hFin nx a ha ihl
    obtain ⟨kc, t, at_⟩ := a
    obtain ⟨g1, g2, n, pre, l, post, g3, g4, g5⟩ := ha
    simp only at g1 g2 g3 g4 g5 ihl ⊢
    by_cases hat : at_ < to
    case neg =>
      have e : at_ = to := by omega
      have hat' : ¬ ((at_ : Int) < (to : Int)) := by omega
      refine ⟨(kc, t), [AObj.cells 26 p.cells 0], ?_, rfl, g1, ⟨n, pre, l, post, g3, by rw [g4, e]⟩⟩
      rw [hFin]
      simp -implicitDefEqProofs [r35_3, k35_3, hat', trim_le]
    have hat' : ((at_ : Int) < (to : Int)) := by omega
    have wa : IntKind.i64.wrap ((at_ : Int) + 1) = ((at_ + 1 : Nat) : Int) := (wrap64 (by omega) (by omega)).trans (by omega)
    obtain ⟨m, LS, hnm, hl, hvB, hTL⟩ := Cp.tr_inner g3.tr (by omega)
    subst hnm
    have hsq : Sq p.q A t := ⟨g3.run, run_us g3.run⟩
    have ft := fun u hu => fits t hsq u hu
    have hcl := hsq.told.2.2
    have nr := fun u => next_row [AObj.cells 26 p.cells 0] kc t.c g1 (by omega) u
    have bO : ∀ d n, below (d + 1) n (intE.o kc t.c) = true := fun d n => Enc.o_bel
    have ihl := fun kc' t' at' h1 h2 => ihl (kc', t', at') h1 h2
    simp only at ihl
    simp -implicitDefEqProofs [k35_3, -Int.natCast_add, -Prod.exists] at ihl
    simp -implicitDefEqProofs [r35_3, k35_3, hat', wa, -Int.natCast_add, -Prod.exists]
    refine ux_goal (G := fun X => ∃ u h', lopK _ _ nx 1 (blkK 1 (seqC E (L E) LL 0 (blkK 2 X) _)) = F u h' ∧ h' = [AObj.cells 26 p.cells 0] ∧ Enc.Ok u.1 u.2.c ∧ PathOk p.q A B T to u.2)
      (LL_uz (α := Nat × Nat) (U := Nd × Nat) (at_ + 1, 0) (fun a => [(11, .int .i64 (a.1 : Int)), (12, .int .i64 (a.2 : Int))]) (fun _ => [AObj.cells 26 p.cells 0]) (.exit 2) (fun u => [(9, lst false (intE.vals u.1.c)), (11, .int .i64 (u.2 : Int)), (12, undef)])
        (fun u h' => h' = [AObj.cells 26 p.cells 0] ∧ at_ < u.2 ∧ ∃ n' pre' l' post', Cp.Place (prQ p.q) A B T n' u.1 pre' l' post' ∧ pre'.length = u.2 ∧ u.2 ≤ to ∧ to < u.2 + l'.length)
        (fun a => a.2 ≤ 6 ∧ at_ < a.1 ∧ a.1 ≤ to ∧ ∃ L1 L2, LS = L1 ++ L2 ∧ TrL (Cp.Tr (prQ p.q) B m) ((us.take a.2).filterMap (next (prQ p.q) t)) L1 ∧ TrL (Cp.Tr (prQ p.q) B m) ((us.drop a.2).filterMap (next (prQ p.q) t)) L2 ∧ a.1 = at_ + 1 + L1.length) (fun a => 6 - a.2) ?_ ?_ ?_ ?_) ?_
    · exact ⟨Nat.zero_le _, Nat.lt_succ_self _, by show at_ + 1 ≤ to; omega, [], LS, rfl, rfl, hTL, rfl⟩
    · simp -implicitDefEqProofs [k35_6, -Int.natCast_add]
    · rfl
    · intro F2 hF2 nx2 a2 ha2 ih2
      obtain ⟨kid, u⟩ := a2
      obtain ⟨k1, k2, k3, L1, L2, k4, k5, k6, k7⟩ := ha2
      simp only at k1 k2 k3 k4 k5 k6 k7 ih2 ⊢
      by_cases hu6 : u < 6
      case neg =>
        have e6 : u = 6 := by omega
        subst e6
        have e0 : L2 = [] := k6
        rw [e0, List.append_nil] at k4
        rw [hl, k4, List.length_cons] at g5
        omega
      have hu' : (u : Int) < 6 := by omega
      have wu : IntKind.i64.wrap ((u : Int) + 1) = ((u + 1 : Nat) : Int) := (wrap64 (by omega) (by omega)).trans (by omega)
      obtain ⟨x, h1', ap1, ap2⟩ := nr (u : Int)
      have fz := frz_row [AObj.cells 26 p.cells 0] (t.c ++ [(u : Int)]) (by simp) 0 (Nat.zero_le _)
      have fz : freezeV E.P depth 0 [AObj.cells 26 p.cells 0, intE.row 3 (t.c ++ [(u : Int)])] (Enc.sl 1 (t.c ++ [(u : Int)])) = some (lst false (intE.vals (t.c ++ [(u : Int)])), [AObj.cells 26 p.cells 0, AObj.dead]) := fz
      have ap2 : appendT (some elInt) h1' 0 false x (lst true (intE.vals [(u : Int)])) = some (Enc.sl 1 (t.c ++ [(u : Int)]), [AObj.cells 26 p.cells 0, intE.row 3 (t.c ++ [(u : Int)])]) := ap2
      have lin : ∀ h : Heap, buildSliceT (some ⟨3, 1, 8, .int .i64 0, ⟨some false, some 1⟩⟩) false h 1 #[(0, .int .i64 (u : Int))] = some (lst true (intE.vals [(u : Int)]), h) := fun h => lit_int h u
      have ft := ft (u : Int) ⟨by omega, by omega⟩
      have rn : ∀ h, reify E.P 8 h (lst false (intE.vals (t.c ++ [(u : Int)]))) = some (lst false (intE.vals (t.c ++ [(u : Int)]))) := fun h => rfl
      have bn : ∀ d m, below (d + 1) m (lst false (intE.vals (t.c ++ [(u : Int)]))) = true := fun d m => rfl
      have ih2 := fun kid' u' h1 h2 => ih2 (kid', u') h1 h2
      simp only at ih2
      rw [Cp.us_drop hu6] at k6
      cases hnx : next (prQ p.q) t (u : Int) with
      | none =>
        rw [hnx] at ft
        simp only [Option.isSome_none] at ft
        rw [List.filterMap_cons_none hnx] at k6
        have ihx := ih2 kid (u + 1) (by omega) ⟨hu6, k2, k3, L1, L2, k4, (by rw [us_take hu6, List.filterMap_append, List.filterMap_cons_none hnx]; simpa using k5), k6, k7⟩
        simp -implicitDefEqProofs [k35_6, -Int.natCast_add, -Prod.exists] at ihx
        simp -implicitDefEqProofs [r35_6, k35_6, hu', lin, lit_none, ap1, ap2, prep_frz, fz, lp, ret0 m22, rA, rcp, rn, ft, wu, trim_cut, bA, bO, bT, bP, -append_lst, -append_slice, -List.all_eq_true, -Int.natCast_add, -Prod.exists]
        exact ihx
      | some w =>
        rw [hnx] at ft
        simp only [Option.isSome_some] at ft
        rw [List.filterMap_cons_some hnx] at k6
        obtain ⟨l', L2', kL, kt, kr⟩ := k6
        have eT : T = (pre ++ ⟨(conts (prQ p.q) t).length, reach (prQ p.q) t⟩ :: L1) ++ (l' ++ (L2' ++ post)) := by
          rw [g3.e, hl, k4, kL]; simp
        have ekid : (pre ++ (⟨(conts (prQ p.q) t).length, reach (prQ p.q) t⟩ : Br) :: L1).length = kid := by
          rw [List.length_append, List.length_cons, g4, k7]; omega
        have ek := Cp.kid_end eT kt
        rw [ekid] at ek
        have e1 := en kid
        rw [ek] at e1
        by_cases hlt : to < kid + l'.length
        · have hlt' : (to : Int) < ((kid + l'.length : Nat) : Int) := by omega
          have hsp : conts (prQ p.q) t = (us.take u).filterMap (next (prQ p.q) t) ++ w :: (us.drop (u + 1)).filterMap (next (prQ p.q) t) := by
            have e : us = us.take u ++ ((u : Int) :: us.drop (u + 1)) := by rw [← Cp.us_drop hu6, List.take_append_drop]
            unfold Cp.conts
            conv => lhs; rw [e]
            rw [List.filterMap_append, List.filterMap_cons_some hnx]
          have g3' := g3
          rw [hl, k4, kL] at g3'
          have pk := Cp.place_kid (Cp.may_us (q := p.q)) g3' rfl hvB hsp hnx k5 kt kr
          have ewc : w.c = t.c ++ [(u : Int)] := (hsq.next hnx).2.1
          refine ⟨(w, kid), [AObj.cells 26 p.cells 0], ?_, rfl, k2, m, _, l', _, pk, ekid, k3, hlt⟩
          rw [hF2, ewc]
          simp -implicitDefEqProofs [r35_6, k35_6, hu', lin, lit_none, ap1, ap2, prep_frz, fz, lp, ret0 m22, ret0 m34, rA, rT, rcp, rn, ft, e1, hlt', trim_cut, bA, bO, bT, bP, bn, -append_lst, -append_slice, -List.all_eq_true, -Int.natCast_add]
        · have hlt' : ¬ (to : Int) < ((kid + l'.length : Nat) : Int) := by omega
          have ihx := ih2 (kid + l'.length) (u + 1) (by omega) ⟨hu6, by omega, by omega, L1 ++ l', L2', by rw [k4, kL, List.append_assoc], (by
            rw [us_take hu6, List.filterMap_append, List.filterMap_cons_some hnx]
            exact trL_snoc k5 kt), kr, by rw [List.length_append]; omega⟩
          simp -implicitDefEqProofs [k35_6, -Int.natCast_add, -Prod.exists] at ihx
          simp -implicitDefEqProofs [r35_6, k35_6, hu', lin, lit_none, ap1, ap2, prep_frz, fz, lp, ret0 m22, ret0 m34, rA, rT, rcp, rn, ft, e1, hlt', wu, trim_cut, bA, bO, bT, bP, -append_lst, -append_slice, -List.all_eq_true, -Int.natCast_add, -Prod.exists]
          exact ihx
    · rintro ⟨w, kid⟩ h' ⟨rfl, k0, n', pre', l', post', k1, k2, k3, k4⟩
      simp only at k0 k1 k2 k3 k4
      have e1 : ¬ ((to : Int) < (kid : Int)) := by omega
      have hkl : kid < T.length := by
        have := k1.e
        have e := congrArg List.length this
        simp only [List.length_append] at e
        have := Cp.tr_pos k1.tr
        have : l'.length ≠ 0 := fun q => this (List.eq_nil_of_length_eq_zero q)
        omega
      have e2 : ¬ ((T.length : Int) ≤ (kid : Int)) := by omega
      have ihx := ihl (some false) w kid (by omega) Enc.ok_some k3 n' pre' l' post' k1 k2 k4
      have eo : intE.o (some false) w.c = lst false (intE.vals w.c) := rfl
      rw [eo] at ihx
      simp -implicitDefEqProofs [k35_6, e1, lT, e2, trim_le, -Int.natCast_add, -Prod.exists]
      exact ihx
  · rintro ⟨kc, t⟩ h' ⟨rfl, k1, k2⟩
    refine ⟨kc, t, k1, k2, ?_⟩
    have ro : ∀ h, reifyR E.P h (intE.o kc t.c) = some (intE.o kc t.c) := fun h => Enc.o_reifyR
    simp -implicitDefEqProofs [k35_3, ro]
end Go.Proofs.Ytcnafncmfiogcaa.Bm
