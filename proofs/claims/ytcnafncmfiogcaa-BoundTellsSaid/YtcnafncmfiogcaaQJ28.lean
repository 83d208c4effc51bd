/-
 Chapter 26: the statement that the code tells what the reference tells, walked. Conditions: what the types say of the arguments.
-/
import Derived.Test.YtcnafncmfiogcaaQJ27
namespace Go.Proofs.Ytcnafncmfiogcaa.Bm
open Go Go.RowKit
open Rg (Rect areaL)
open Cp (Q Nd Br prQ validQ run root reach chk best next us conts inA prv forest lows fitR)
set_option maxHeartbeats 2000000 in
theorem rReach_spec (P : Rooms) (hP : RoomsOk P) (p : Pb) (hp : PbOk p) (c : List Int) (hc : c.length ≤ 1000) (hcb : ∀ u ∈ c, -9223372036854775808 ≤ u ∧ u ≤ 9223372036854775807) :
  pureCall E.P (L E) 26 [roomsV false P, .agg ⟨p.cells⟩, lst false (intE.vals c)] = some (.tuple ⟨match okA P p with | none => [.int .i64 0, .int .i64 1] | some A => reachV (prQ p.q) A c⟩) := by
 have fl := floors_spec false P hP p hp
 have sR : settled depth (roomsV false P) = true := rfl
 have ps : settled depth (.agg ⟨p.cells⟩) = true := p.set
 have rcp : ∀ h, reifyC E.P 7 h p.cells = some p.cells := fun h => reifyC_set (pb_all p)
 have lp : ∀ t, loadT ⟨some true, some 4⟩ (AObj.cells 26 p.cells 0 :: t) (.pointer (some ⟨0, 0, none⟩)) = some (.agg ⟨p.cells⟩) := fun t => obj_all (b := 0) rfl rfl
 rw [pureCall_fn F26 rfl]
 cases ho : okA P p with
 | none =>
  rw [ho] at fl
  unfold floorsV at fl
  generalize roomsV false P = RV at *
  simp -implicitDefEqProofs [r26, p26, lp, ret1 m55, sR, ps, fl]
 | some A =>
  rw [ho] at fl
  have fl : pureCall E.P (L E) 55 [roomsV false P, .agg ⟨p.cells⟩] = some (.tuple ⟨[lst false (intE.vals A), .int .i64 0]⟩) := fl
  obtain ⟨hA, _, _, _⟩ := okA_bq hp ho
  have h13 := hA.len
  have ft := rfits_spec p hp (some false) (some false) A c Enc.ok_some Enc.ok_some (by omega) hc hcb
  rw [fitR_run ho] at ft
  have ft : pureCall E.P (L E) 17 [lst false (intE.vals A), .agg ⟨p.cells⟩, lst false (intE.vals c)] = some (.bool (run (prQ p.q) (root (prQ p.q) A) c).isSome) := ft
  have rA : ∀ h, reify E.P 8 h (lst false (intE.vals A)) = some (lst false (intE.vals A)) := fun h => rfl
  have rC : ∀ h, reify E.P 8 h (lst false (intE.vals c)) = some (lst false (intE.vals c)) := fun h => rfl
  show _ = some (Value.tuple ⟨reachV (prQ p.q) A c⟩)
  unfold reachV
  cases hr : run (prQ p.q) (root (prQ p.q) A) c with
  | none =>
   rw [hr] at ft
   simp only [Option.isSome_none] at ft
   generalize lst false (intE.vals A) = AV at *
   generalize lst false (intE.vals c) = CV at *
   generalize roomsV false P = RV at *
   simp -implicitDefEqProofs [r26, p26, lp, ret1 m55, sR, ps, fl, ret0 m17, rA, rC, rcp, ft]
  | some t =>
   rw [hr] at ft
   simp only [Option.isSome_some] at ft
   have htc : t.c = c := by rw [Cp.run_c hr]; rfl
   have hsq : Sq p.q A t := ⟨by rw [htc]; exact hr, by rw [htc]; exact run_us hr⟩
   have rs := rreach_spec p (some false) (some false) A Enc.ok_some hA t hsq Enc.ok_some
   rw [htc] at rs
   have rs : pureCall E.P (L E) 56 [lst false (intE.vals A), .agg ⟨p.cells⟩, lst false (intE.vals c)] = some (.int .i64 (reach (prQ p.q) t)) := rs
   generalize lst false (intE.vals A) = AV at *
   generalize lst false (intE.vals c) = CV at *
   generalize roomsV false P = RV at *
   simp -implicitDefEqProofs [r26, p26, lp, ret1 m55, sR, ps, fl, ret0 m17, rA, rC, rcp, ft, ret0 m56, rs]
set_option maxHeartbeats 2000000 in
theorem rTighten_spec (P : Rooms) (hP : RoomsOk P) (p : Pb) (hp : PbOk p) (T : List Br) (hT : T.length ≤ 1000000) :
  pureCall E.P (L E) 28 [roomsV false P, .agg ⟨p.cells⟩, lst false (brR.vals T)] = some (.tuple ⟨match okA P p with | none => [.slice none 0 0, .int .i64 1] | some A => tightenV (Cp.tight (prQ p.q) A T)⟩) := by
 have fl := floors_spec false P hP p hp
 have sR : settled depth (roomsV false P) = true := rfl
 have ps : settled depth (.agg ⟨p.cells⟩) = true := p.set
 have lp : ∀ t, loadT ⟨some true, some 4⟩ (AObj.cells 26 p.cells 0 :: t) (.pointer (some ⟨0, 0, none⟩)) = some (.agg ⟨p.cells⟩) := fun t => obj_all (b := 0) rfl rfl
 rw [pureCall_fn F28 rfl]
 cases ho : okA P p with
 | none =>
  rw [ho] at fl
  unfold floorsV at fl
  generalize roomsV false P = RV at *
  simp -implicitDefEqProofs [r28, p28, lp, ret1 m55, sR, ps, fl]
 | some A =>
  rw [ho] at fl
  have fl : pureCall E.P (L E) 55 [roomsV false P, .agg ⟨p.cells⟩] = some (.tuple ⟨[lst false (intE.vals A), .int .i64 0]⟩) := fl
  obtain ⟨h1, h2⟩ := okA_some ho
  obtain ⟨h12, hpos⟩ := areas_told h1
  have tg := rtight_spec p hp h2 A h12 (Cp.inA_iff.2 hpos) T hT
  have sA : settled depth (lst false (intE.vals A)) = true := rfl
  have sT : settled depth (lst false (brR.vals T)) = true := rfl
  show _ = some (Value.tuple ⟨tightenV (Cp.tight (prQ p.q) A T)⟩)
  cases ht : Cp.tight (prQ p.q) A T with
  | none =>
   rw [ht] at tg
   unfold tightV at tg
   generalize lst false (intE.vals A) = AV at *
   generalize lst false (brR.vals T) = TV at *
   generalize roomsV false P = RV at *
   simp -implicitDefEqProofs [r28, p28, lp, ret1 m55, sR, ps, fl, ret1 m58, sA, sT, tg, tightenV]
  | some o =>
   rw [ht] at tg
   have tg : pureCall E.P (L E) 58 [lst false (intE.vals A), .agg ⟨p.cells⟩, lst false (brR.vals T)] = some (.tuple ⟨[lst false (brR.vals o), .bool true]⟩) := tg
   show _ = some (Value.tuple ⟨[lst false (brR.vals o), .int .i64 0]⟩)
   have rO : ∀ h, reify E.P 8 h (lst false (brR.vals o)) = some (lst false (brR.vals o)) := fun h => rfl
   generalize lst false (brR.vals o) = OV at *
   generalize lst false (intE.vals A) = AV at *
   generalize lst false (brR.vals T) = TV at *
   generalize roomsV false P = RV at *
   simp -implicitDefEqProofs [r28, p28, lp, ret1 m55, sR, ps, fl, ret1 m58, sA, sT, tg, rO]
set_option maxHeartbeats 4000000 in
theorem rCheck_spec (P : Rooms) (hP : RoomsOk P) (p : Pb) (hp : PbOk p) (c : List Int) (hc : c.length ≤ 1000) (hcb : ∀ u ∈ c, -9223372036854775808 ≤ u ∧ u ≤ 9223372036854775807) (v : Int) (T : List Br) (hT : T.length ≤ 1000000) :
  pureCall E.P (L E) 31 [roomsV false P, .agg ⟨p.cells⟩, lst false (intE.vals c), .int .i64 v, lst false (brR.vals T)] = some (.int .i64 (match okA P p with | none => 1 | some A => codeC (chk (prQ p.q) A c v T))) := by
 have fl := floors_spec false P hP p hp
 have sR : settled depth (roomsV false P) = true := rfl
 have ps : settled depth (.agg ⟨p.cells⟩) = true := p.set
 have rcp : ∀ h, reifyC E.P 7 h p.cells = some p.cells := fun h => reifyC_set (pb_all p)
 have lp : ∀ t, loadT ⟨some true, some 4⟩ (AObj.cells 26 p.cells 0 :: t) (.pointer (some ⟨0, 0, none⟩)) = some (.agg ⟨p.cells⟩) := fun t => obj_all (b := 0) rfl rfl
 rw [pureCall_fn F31 rfl]
 cases ho : okA P p with
 | none =>
  rw [ho] at fl
  unfold floorsV at fl
  generalize roomsV false P = RV at *
  simp -implicitDefEqProofs [r31, p31, lp, ret1 m55, sR, ps, fl]
 | some A =>
  rw [ho] at fl
  have fl : pureCall E.P (L E) 55 [roomsV false P, .agg ⟨p.cells⟩] = some (.tuple ⟨[lst false (intE.vals A), .int .i64 0]⟩) := fl
  obtain ⟨hA, _, _, _⟩ := okA_bq hp ho
  have h13 := hA.len
  obtain ⟨h1, h2⟩ := okA_some ho
  obtain ⟨h12, hpos⟩ := areas_told h1
  have tg := rtight_spec p hp h2 A h12 (Cp.inA_iff.2 hpos) T hT
  have ft := rfits_spec p hp (some false) (some false) A c Enc.ok_some Enc.ok_some (by omega) hc hcb
  rw [fitR_run ho] at ft
  have ft : pureCall E.P (L E) 17 [lst false (intE.vals A), .agg ⟨p.cells⟩, lst false (intE.vals c)] = some (.bool (run (prQ p.q) (root (prQ p.q) A) c).isSome) := ft
  have rA : ∀ h, reify E.P 8 h (lst false (intE.vals A)) = some (lst false (intE.vals A)) := fun h => rfl
  have rC : ∀ h, reify E.P 8 h (lst false (intE.vals c)) = some (lst false (intE.vals c)) := fun h => rfl
  have sA : settled depth (lst false (intE.vals A)) = true := rfl
  have sT : settled depth (lst false (brR.vals T)) = true := rfl
  have ixT : ∀ (i : Nat) (hi : i < T.length), indexAddrT (.sl 41 ⟨some true, some 2⟩) (lst false (brR.vals T)) (.int .i64 (i : Int)) = some (cptr (.agg ⟨[.int .i64 T[i].kids, .int .i64 T[i].bound]⟩)) := brV_index (some false) T Rec.ok_some
  show _ = some (Value.int .i64 (codeC (chk (prQ p.q) A c v T)))
  unfold chk
  cases hr : run (prQ p.q) (root (prQ p.q) A) c with
  | none =>
   rw [hr] at ft
   simp only [Option.isSome_none] at ft
   generalize lst false (intE.vals A) = AV at *
   generalize lst false (intE.vals c) = CV at *
   generalize lst false (brR.vals T) = TV at *
   generalize roomsV false P = RV at *
   simp -implicitDefEqProofs [r31, p31, lp, ret1 m55, sR, ps, fl, ret0 m17, rA, rC, rcp, ft, codeC]
  | some t =>
   rw [hr] at ft
   simp only [Option.isSome_some] at ft
   have htc : t.c = c := by rw [Cp.run_c hr]; rfl
   have hsq : Sq p.q A t := ⟨by rw [htc]; exact hr, by rw [htc]; exact run_us hr⟩
   obtain ⟨_, e2, e3⟩ := hsq.told
   rw [htc] at e2 e3
   have vs := value_spec (some false) (some false) A c Enc.ok_some Enc.ok_some hA (by omega)
   rw [← e2] at vs
   have vs : pureCall E.P (L E) 18 [lst false (intE.vals A), lst false (intE.vals c)] = some (.int .i64 t.v) := vs
   simp only
   by_cases hv : t.v = v
   case neg =>
    rw [if_neg hv]
    generalize lst false (intE.vals A) = AV at *
    generalize lst false (intE.vals c) = CV at *
    generalize lst false (brR.vals T) = TV at *
    generalize roomsV false P = RV at *
    simp -implicitDefEqProofs [r31, p31, lp, ret1 m55, sR, ps, fl, ret0 m17, ret0 m18, rA, rC, rcp, ft, vs, hv, codeC]
   rw [if_pos hv]
   cases ht : Cp.tight (prQ p.q) A T with
   | none =>
    rw [ht] at tg
    unfold tightV at tg
    generalize lst false (intE.vals A) = AV at *
    generalize lst false (intE.vals c) = CV at *
    generalize lst false (brR.vals T) = TV at *
    generalize roomsV false P = RV at *
    simp -implicitDefEqProofs [r31, p31, lp, ret1 m55, sR, ps, fl, ret0 m17, ret0 m18, rA, rC, rcp, ft, vs, hv, ret1 m58, sA, sT, tg, codeC]
   | some o =>
    rw [ht] at tg
    have tg : pureCall E.P (L E) 58 [lst false (intE.vals A), .agg ⟨p.cells⟩, lst false (brR.vals T)] = some (.tuple ⟨[lst false (brR.vals o), .bool true]⟩) := tg
    obtain ⟨hol, hone⟩ := tight_len ht
    have ixO : ∀ (i : Nat) (hi : i < o.length), indexAddrT (.sl 41 ⟨some true, some 2⟩) (lst false (brR.vals o)) (.int .i64 (i : Int)) = some (cptr (.agg ⟨[.int .i64 o[i].kids, .int .i64 o[i].bound]⟩)) := brV_index (some false) o Rec.ok_some
    have lO : ∀ h, lenT .sl h (lst false (brR.vals o)) = some (.int .i64 o.length) := fun h => Rec.o_len (R := brR) (k := some false) Rec.ok_some
    have h0 : 0 < o.length := List.length_pos_iff.2 hone
    have i0 : indexAddrT (.sl 41 ⟨some true, some 2⟩) (lst false (brR.vals o)) (.int .i64 0) = some (cptr (.agg ⟨[.int .i64 o[0].kids, .int .i64 o[0].bound]⟩)) := ixO 0 h0
    have e0 : o.headD ⟨0, 0⟩ = o[0] := by
     cases o with
     | nil => exact absurd rfl hone
     | cons a l => rfl
    generalize lst false (brR.vals o) = OV at *
    generalize lst false (intE.vals A) = AV at *
    generalize lst false (intE.vals c) = CV at *
    generalize lst false (brR.vals T) = TV at *
    generalize roomsV false P = RV at *
    simp only
    rw [e0]
    by_cases hb : v < o[0].bound
    ·rw [if_pos (.inl hb)]
     simp -implicitDefEqProofs [r31, p31, lp, ret1 m55, sR, ps, fl, ret0 m17, ret0 m18, rA, rC, rcp, ft, vs, hv, ret1 m58, sA, sT, tg, i0, br_f1, hb, codeC]
    ·simp -implicitDefEqProofs [r31, p31, lp, ret1 m55, sR, ps, fl, ret0 m17, ret0 m18, rA, rC, rcp, ft, vs, hv, ret1 m58, sA, sT, tg, i0, br_f1, hb]
     rw [LL_for (γ := Unit) o () (fun i _ => [(15, .int .i64 i)]) (fun _ _ => [AObj.cells 26 p.cells 0])
      (fun i rest _ => if lows (T.drop i) rest = false then (.exit 0, [(15, undef)], [AObj.cells 26 p.cells 0]) else (.ret, [(10, .int .i64 19), (15, undef)], [AObj.cells 26 p.cells 0])) (fun _ _ => True) (by omega) trivial]
     ·rw [List.drop_zero]
      cases hl : lows T o
      ·simp -implicitDefEqProofs [k31_10, codeC]
      ·simp -implicitDefEqProofs [k31_10, codeC]
     ·simp -implicitDefEqProofs [k31_10]
     ·rfl
     ·intro nx i _ hi _
      have e : ∀ l, lows l [] = false := fun l => by cases l <;> rfl
      rw [e]
      simp -implicitDefEqProofs [r31_10, k31_10, lO, hi, trim_le]
     ·intro nx i w rest _ hi hw hd hwi _ ih
      have ih := ih () trivial
      have hi' : (i : Int) < (o.length : Int) := by omega
      have xo := ixO i hi
      rw [hw] at xo
      have hiT : i < T.length := by omega
      have xt := ixT i hiT
      have hdT : T.drop i = T[i] :: T.drop (i + 1) := List.drop_eq_getElem_cons hiT
      rw [hdT, lows_cons]
      by_cases hlt : T[i].bound < w.bound
      ·simp -implicitDefEqProofs [r31_10, k31_10, lO, hi', xo, xt, br_f1, hlt, trim_le]
      ·simp -implicitDefEqProofs [k31_10] at ih
       simp -implicitDefEqProofs [r31_10, k31_10, lO, hi', xo, xt, br_f1, hlt, hwi, trim_le]
       exact ih
end Go.Proofs.Ytcnafncmfiogcaa.Bm
namespace Go.Proofs.Ytcnafncmfiogcaa.Bm
open Go Go.RowKit
open Rg (Rect areaL)
open Cp (Q Nd Br prQ validQ run root reach chk best)
set_option maxHeartbeats 8000000 in
theorem tells26_law (P : Rooms) (p : Pb) (c : List Int) (v : Int) (T : List Br) (ha : Args P p) (hcb : ∀ u ∈ c, -9223372036854775808 ≤ u ∧ u ≤ 9223372036854775807) :
  ∃ h', L E 7 [roomsV false P, p.val, intE.o (some false) c, .int .i64 v, lst false (brR.vals T)] [] 0 = some (.bool true, h') := by
 have fw := ha.few false
 have sm := small26_spec
 have rr := rooms_reify false P
 have sr : settled depth (roomsV false P) = true := rfl
 have rcp : ∀ h, reifyC E.P 7 h p.cells = some p.cells := fun h => reifyC_set (pb_all p)
 have pe : p.val = .agg ⟨p.cells⟩ := rfl
 have ps : settled depth (.agg ⟨p.cells⟩) = true := p.set
 have lp : ∀ t, loadT ⟨some true, some 4⟩ (AObj.cells 26 p.cells 0 :: t) (.pointer (some ⟨0, 0, none⟩)) = some (.agg ⟨p.cells⟩) := fun t => obj_all (b := 0) rfl rfl
 have ec : intE.o (some false) c = lst false (intE.vals c) := rfl
 have lc : ∀ h, lenT .sl h (lst false (intE.vals c)) = some (.int .i64 c.length) := fun h => Enc.o_len (O := intE) (k := some false) Enc.ok_some
 have lT : ∀ h, lenT .sl h (lst false (brR.vals T)) = some (.int .i64 T.length) := fun h => Rec.o_len (R := brR) (k := some false) Rec.ok_some
 have rC : ∀ h, reify E.P 8 h (lst false (intE.vals c)) = some (lst false (intE.vals c)) := fun h => rfl
 have rT : ∀ h, reify E.P 8 h (lst false (brR.vals T)) = some (lst false (brR.vals T)) := fun h => rfl
 have sT : settled depth (lst false (brR.vals T)) = true := rfl
 rw [L_fn F7 rfl, pe, ec]
 cases hF : fewB P p
 ·rw [hF] at fw
  simp -implicitDefEqProofs [r7, p7, ret0 m24, sm, ret0 m13, rr, lp, rcp, fw]
 rw [hF] at fw
 obtain ⟨hPo, hp⟩ := ha.get hF
 by_cases q1 : 14 < c.length
 ·have q1' : (14 : Int) < c.length := by omega
  generalize lst false (intE.vals c) = CV at *
  simp -implicitDefEqProofs [r7, p7, ret0 m24, sm, ret0 m13, rr, lp, rcp, fw, lc, q1']
 have q1' : ¬ (14 : Int) < c.length := by omega
 by_cases q2 : 300 < T.length
 ·have q2' : (300 : Int) < T.length := by omega
  generalize lst false (intE.vals c) = CV at *
  generalize lst false (brR.vals T) = TV at *
  simp -implicitDefEqProofs [r7, p7, ret0 m24, sm, ret0 m13, rr, lp, rcp, fw, lc, lT, q1', q2']
 have q2' : ¬ (300 : Int) < T.length := by omega
 obtain ⟨a, e, b1, b2⟩ : ∃ a e : Int, pureCall E.P (L E) 25 [roomsV false P, .agg ⟨p.cells⟩, lst false (intE.vals c)] = some (.tuple ⟨[.int .i64 a, .int .i64 e]⟩) ∧
   pureCall E.P (L E) 26 [roomsV false P, .agg ⟨p.cells⟩, lst false (intE.vals c)] = some (.tuple ⟨[.int .i64 a, .int .i64 e]⟩) := by
  have h1 := bReach_spec false P hPo p hp (some false) c Enc.ok_some (by omega)
  have h2 := rReach_spec P hPo p hp c (by omega) hcb
  rw [pe, ec] at h1
  cases ho : okA P p with
  | none => rw [ho] at h1 h2; exact ⟨_, _, h1, h2⟩
  | some A =>
   rw [ho] at h1 h2
   have h1 : pureCall E.P (L E) 25 [roomsV false P, .agg ⟨p.cells⟩, lst false (intE.vals c)] = some (.tuple ⟨reachV (prQ p.q) A c⟩) := h1
   have h2 : pureCall E.P (L E) 26 [roomsV false P, .agg ⟨p.cells⟩, lst false (intE.vals c)] = some (.tuple ⟨reachV (prQ p.q) A c⟩) := h2
   unfold reachV at h1 h2
   cases hr : run (prQ p.q) (root (prQ p.q) A) c with
   | none => rw [hr] at h1 h2; exact ⟨_, _, h1, h2⟩
   | some t => rw [hr] at h1 h2; exact ⟨_, _, h1, h2⟩
 obtain ⟨TV', e3, d1, d2, d3, d4⟩ : ∃ (TV' : Value) (e3 : Int), pureCall E.P (L E) 27 [roomsV false P, .agg ⟨p.cells⟩, lst false (brR.vals T)] = some (.tuple ⟨[TV', .int .i64 e3]⟩) ∧
   pureCall E.P (L E) 28 [roomsV false P, .agg ⟨p.cells⟩, lst false (brR.vals T)] = some (.tuple ⟨[TV', .int .i64 e3]⟩) ∧ pureCall E.P (L E) 29 [TV', TV'] = some (.bool true) ∧ ∀ h, reify E.P 8 h TV' = some TV' := by
  have h1 := bTighten_spec false P hPo p hp (some false) T Rec.ok_some (by omega)
  have h2 := rTighten_spec P hPo p hp T (by omega)
  rw [pe] at h1
  have sn : pureCall E.P (L E) 29 [.slice none 0 0, .slice none 0 0] = some (.bool true) := same_spec none none [] [] (fun _ => rfl) (fun _ => rfl) (by decide)
  cases ho : okA P p with
  | none => rw [ho] at h1 h2; exact ⟨_, _, h1, h2, sn, fun h => rfl⟩
  | some A =>
   rw [ho] at h1 h2
   have h1 : pureCall E.P (L E) 27 [roomsV false P, .agg ⟨p.cells⟩, lst false (brR.vals T)] = some (.tuple ⟨tightenV (Cp.tight (prQ p.q) A T)⟩) := h1
   have h2 : pureCall E.P (L E) 28 [roomsV false P, .agg ⟨p.cells⟩, lst false (brR.vals T)] = some (.tuple ⟨tightenV (Cp.tight (prQ p.q) A T)⟩) := h2
   cases ht : Cp.tight (prQ p.q) A T with
   | none => rw [ht] at h1 h2; exact ⟨_, _, h1, h2, sn, fun h => rfl⟩
   | some o =>
    rw [ht] at h1 h2
    have hl := (tight_len ht).1
    have so := same_spec (some false) (some false) o o Rec.ok_some Rec.ok_some (by omega)
    rw [decide_eq_true rfl] at so
    exact ⟨lst false (brR.vals o), 0, h1, h2, so, fun h => rfl⟩
 obtain ⟨cd, k1, k2⟩ : ∃ cd : Int, pureCall E.P (L E) 30 [roomsV false P, .agg ⟨p.cells⟩, lst false (intE.vals c), .int .i64 v, lst false (brR.vals T)] = some (.int .i64 cd) ∧
   pureCall E.P (L E) 31 [roomsV false P, .agg ⟨p.cells⟩, lst false (intE.vals c), .int .i64 v, lst false (brR.vals T)] = some (.int .i64 cd) := by
  have h1 := bCheck_spec false P hPo p hp (some false) c Enc.ok_some (by omega) v (some false) T Rec.ok_some (by omega)
  have h2 := rCheck_spec P hPo p hp c (by omega) hcb v T (by omega)
  rw [pe, ec] at h1
  cases ho : okA P p with
  | none => rw [ho] at h1 h2; exact ⟨_, h1, h2⟩
  | some A => rw [ho] at h1 h2; exact ⟨_, h1, h2⟩
 generalize lst false (intE.vals c) = CV at *
 generalize lst false (brR.vals T) = TV at *
 generalize roomsV false P = RV at *
 simp -implicitDefEqProofs [r7, p7, ret0 m24, sm, ret0 m13, rr, lp, rcp, fw, lc, lT, q1', q2', ret0 m25, ret0 m26, rC, rT, b1, b2, ret1 m27, ret1 m28, sr, ps, sT, d1, d2, ret0 m29, d3, d4, ret0 m30, ret0 m31, k1, k2]
end Go.Proofs.Ytcnafncmfiogcaa.Bm
