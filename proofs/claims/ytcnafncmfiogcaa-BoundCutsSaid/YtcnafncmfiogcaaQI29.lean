/-
  Chapter 26: the statement on cut trees, walked. Conditions: what the types say of the arguments.
-/
import Derived.Test.YtcnafncmfiogcaaQI28
namespace Go.Proofs.Ytcnafncmfiogcaa.Bm
open Go Go.RowKit
open Rg (Rect areaL)
open Cp (Q Nd Br prQ validQ run root reach chk best next us conts inA fitS skip endF)
theorem bin_eqlB (p q : Bool) : aBin E.P .eql 4 (.bool p) (.bool q) = some (.bool (p == q)) := bin_eql_bool ub25
theorem codeC_zero (n : Nat) : codeC n = 0 ↔ n = 0 := by
  match n with
  | 0 => exact ⟨fun _ => rfl, fun _ => rfl⟩
  | 1 => exact ⟨fun h => absurd h (show ¬ (18 : Int) = 0 by decide), fun h => absurd h (by decide)⟩
  | n + 2 => exact ⟨fun h => absurd h (show ¬ (19 : Int) = 0 by decide), fun h => absurd h (by omega)⟩
set_option maxHeartbeats 8000000 in
theorem cuts_law (P : Rooms) (p : Pb) (at_ : Int) (ha : Args P p) : ∃ h', L E 11 [roomsV false P, p.val, .int .i64 at_] [] 0 = some (.bool true, h') := by
  have fw := ha.few false
  have sm := small26_spec
  have rr := rooms_reify false P
  have sr : settled depth (roomsV false P) = true := rfl
  have rcp : ∀ h, reifyC E.P 7 h p.cells = some p.cells := fun h => reifyC_set (pb_all p)
  have pe : p.val = .agg ⟨p.cells⟩ := rfl
  have ps : settled depth (.agg ⟨p.cells⟩) = true := p.set
  have lp : ∀ t, loadT ⟨some true, some 4⟩ (AObj.cells 26 p.cells 0 :: t) (.pointer (some ⟨0, 0, none⟩)) = some (.agg ⟨p.cells⟩) := fun t => obj_all (b := 0) rfl rfl
  rw [L_fn F11 rfl, pe]
  cases hF : fewB P p
  · rw [hF] at fw
    simp -implicitDefEqProofs [r11, p11, ret0 m24, sm, ret0 m13, rr, lp, rcp, fw]
  rw [hF] at fw
  obtain ⟨hPo, hp⟩ := ha.get hF
  obtain ⟨V, bv, hV⟩ := best_v P hPo p hp
  have ar := areas_call false P hPo
  obtain ⟨aV, ae, ar, hae⟩ : ∃ (aV : Value) (ae : Int), (∀ h, retCall E (L E) 0 false 14 [roomsV false P] h = some (.tuple ⟨[aV, .int .i64 ae]⟩, h)) ∧ ∀ A, areasF (lists P) = some A → aV = lst false (intE.vals A) ∧ ae = 0 := by
    cases hA : areasF (lists P) with
    | none => rw [hA] at ar; exact ⟨_, _, ar, fun A h => by cases h⟩
    | some A => rw [hA] at ar; exact ⟨_, _, ar, fun B h => by rw [Option.some.inj h]; exact ⟨rfl, rfl⟩⟩
  cases hV with
  | bad ho hv =>
    subst hv
    generalize roomsV false P = RV at *
    simp -implicitDefEqProofs [r11, p11, ret0 m24, sm, ret0 m13, rr, lp, rcp, fw, ret1 m15, sr, ps, bv, ar]
  | full A ho hb hv =>
    subst hv
    generalize roomsV false P = RV at *
    simp -implicitDefEqProofs [r11, p11, ret0 m24, sm, ret0 m13, rr, lp, rcp, fw, ret1 m15, sr, ps, bv, ar]
  | ok A v c T k ho hb hk hv =>
    subst hv
    obtain ⟨hAf, hval⟩ := okA_some ho
    obtain ⟨e1, e2⟩ := hae A hAf
    subst e1; subst e2
    have lT : ∀ h, lenT .sl h (lst false (brR.vals T)) = some (.int .i64 T.length) := fun h => Rec.o_len (R := brR) (k := some false) Rec.ok_some
    by_cases h500 : 500 < T.length
    · have h500' : (500 : Int) < T.length := by omega
      generalize lst false (brR.vals T) = TV at *
      generalize roomsV false P = RV at *
      simp -implicitDefEqProofs [r11, p11, ret0 m24, sm, ret0 m13, rr, lp, rcp, fw, ret1 m15, sr, ps, bv, ar, lT, h500']
    have h500' : ¬ (500 : Int) < T.length := by omega
    obtain ⟨hA, hq, hA0, hm0⟩ := okA_bq hp ho
    have hus := Cp.may_us (q := p.q)
    obtain ⟨hcl, _⟩ := best_run hus hA0 hm0 hb
    have h13 := hA.len
    obtain ⟨h12, hpos⟩ := areas_told hAf
    have hin : inA A = true := Cp.inA_iff.2 hpos
    have hroot := Cp.best_place hus hA0 hm0 hb
    have hTne : T ≠ [] := Cp.tr_pos hroot.tr
    have hT0 : 0 < T.length := List.length_pos_iff.2 hTne
    obtain ⟨mm, i, hi, am, arm⟩ := at_rem (at_ := at_) hT0 (by omega)
    obtain ⟨kc, t, hkc, ⟨n, pre, l, post, hpl, hpre⟩, hpath⟩ := path_spec p hp hval A h12 hin v T (by omega) hroot i hi
    have hend := Cp.place_end hpl
    rw [hpre] at hend
    have en : pureCall E.P (L E) 34 [lst false (brR.vals T), .int .i64 (i : Int)] = some (.int .i64 (endF T i : Nat)) := end_spec (some false) T Rec.ok_some (by omega) (tr_kids hroot.tr) i
    rw [hend] at en
    obtain ⟨b, LS, hl⟩ : ∃ b LS, l = b :: LS := by
      cases l with
      | nil => exact absurd rfl (Cp.tr_pos hpl.tr)
      | cons b LS => exact ⟨b, LS, rfl⟩
    subst hl
    obtain ⟨hbb, hcut⟩ := Cp.cut_law hus hA0 hm0 hb hpl
    have hTe := hpl.e
    have hlen : T.length = i + (b :: LS).length + post.length := by rw [hTe]; simp only [List.length_append]; omega
    have hTi : T[i] = b := by
      have h1 : T[i]? = some b := by rw [hTe, List.getElem?_append_right (by omega), hpre, Nat.sub_self]; rfl
      rw [List.getElem?_eq_getElem hi] at h1
      exact Option.some.inj h1
    have htake : T.take (i + 1) = pre ++ [b] := by
      rw [List.take_succ_eq_append_getElem hi, hTi]
      congr 1
      rw [hTe]; exact List.take_left' hpre
    have hdrop : T.drop (i + (b :: LS).length) = post := by
      rw [hTe, ← List.append_assoc]
      exact List.drop_left' (by rw [List.length_append, hpre])
    have hset : (pre ++ [b] ++ post).set i ⟨0, b.bound⟩ = pre ++ (⟨0, b.bound⟩ :: post) := by
      rw [List.append_assoc, List.set_append_right _ _ (by omega), hpre, Nat.sub_self]; rfl
    have hcl2 : (pre ++ [b] ++ post).length ≤ 1000 := by simp only [List.length_append, List.length_cons, List.length_nil] at hlen ⊢; omega
    have hic : i < (pre ++ [b] ++ post).length := by simp only [List.length_append, List.length_cons, List.length_nil]; omega
    -- the heap
    have ap1 := br_new [AObj.cells 26 p.cells 0] 0 false (T.take (i + 1)) (by rw [htake]; simp) (by rw [List.length_take]; omega)
    have tk : ∀ h, sliceT (.sl 41 ⟨some true, some 2⟩) h (lst false (brR.vals T)) none (some (.int .i64 ((i : Int) + 1))) none = some (lst false (brR.vals (T.take (i + 1)))) := fun h => by
      have := br_take h T (i + 1) (by omega)
      rw [Int.natCast_add] at this
      exact this
    have dr : ∀ h, sliceT (.sl 41 ⟨some true, some 2⟩) h (lst false (brR.vals T)) (some (.int .i64 ((i + (b :: LS).length : Nat) : Int))) none none = some (lst false (brR.vals post)) := fun h => by
      have := br_drop h T (i + (b :: LS).length) _ rfl (by omega)
      rw [hdrop] at this
      exact this
    rw [htake] at ap1 tk
    have ap1 : appendT (some elBr) [AObj.cells 26 p.cells 0] 0 false (lst true []) (lst false (brR.vals (pre ++ [b]))) = some (brR.sl 1 (pre ++ [b]), [AObj.cells 26 p.cells 0, brR.row 41 (pre ++ [b])]) := ap1
    have ap2 : appendT (some elBr) [AObj.cells 26 p.cells 0, brR.row 41 (pre ++ [b])] 0 false (brR.sl 1 (pre ++ [b])) (lst false (brR.vals post)) = some (brR.sl 1 (pre ++ [b] ++ post), [AObj.cells 26 p.cells 0, brR.row 41 (pre ++ [b] ++ post)]) :=
      br_more [AObj.cells 26 p.cells 0, brR.row 41 (pre ++ [b])] 1 (pre ++ [b]) post false rfl (by rw [← List.length_append]; omega)
    have ig := Rec.index_row (R := brR) (h0 := 2) (t := 41) (g := some true) (b := 1) (l := pre ++ [b] ++ post) (i := i) (k := .i64) rfl hic
    have fg0 := Rec.field_row (R := brR) (b := 1) (n := 0) (f := 0) (l := pre ++ [b] ++ post) (i := i) (k := ⟨some true, some 2⟩) (g := some false)
    have hci : (pre ++ [b] ++ post)[i] = b := by
      have h1 : (pre ++ [b] ++ post)[i]? = some b := by rw [List.append_assoc, List.getElem?_append_right (by omega), hpre, Nat.sub_self]; rfl
      rw [List.getElem?_eq_getElem hic] at h1
      exact Option.some.inj h1
    have sk : storeT (some 1) [AObj.cells 26 p.cells 0, brR.row 41 (pre ++ [b] ++ post)] 0 (.int .i64 0) (brR.at_ 1 (pre ++ [b] ++ post) i 0) = some [AObj.cells 26 p.cells 0, brR.row 41 (pre ++ (⟨0, b.bound⟩ :: post))] := by
      refine (Rec.store_cell (R := brR) (h := [AObj.cells 26 p.cells 0, brR.row 41 (pre ++ [b] ++ post)]) (t := 41) (a := ⟨0, b.bound⟩) rfl rfl (Nat.zero_le _) hic (by decide) (by rw [hci]; rfl)).trans ?_
      rw [hset]; rfl
    have rl : reify E.P 8 [AObj.cells 26 p.cells 0, brR.row 41 (pre ++ (⟨0, b.bound⟩ :: post))] (brR.sl 1 (pre ++ [b] ++ post)) = some (lst false (brR.vals (pre ++ (⟨0, b.bound⟩ :: post)))) := by
      have hll : (pre ++ ((⟨0, b.bound⟩ : Br) :: post)).length = (pre ++ [b] ++ post).length := by simp
      rw [← sl_same hll]
      exact Rec.reify_row (R := brR) (n := 7) rfl sB2 aB2
    have iT : indexAddrT (.sl 41 ⟨some true, some 2⟩) (lst false (brR.vals T)) (.int .i64 (i : Int)) = some (cptr (.agg ⟨[.int .i64 T[i].kids, .int .i64 T[i].bound]⟩)) := brV_index (some false) T Rec.ok_some i hi
    rw [hTi] at iT
    have rc := bReach_spec false P hPo p hp kc t.c hkc (by have := (Cp.run_rem hpl.run).2.2; have e : (root (prQ p.q) A).rem = A := rfl; rw [e] at this; omega)
    rw [pe, ho] at rc
    have rc : pureCall E.P (L E) 25 [roomsV false P, .agg ⟨p.cells⟩, intE.o kc t.c] = some (.tuple ⟨reachV (prQ p.q) A t.c⟩) := rc
    have rv : reachV (prQ p.q) A t.c = [.int .i64 (reach (prQ p.q) t), .int .i64 0] := by unfold reachV; rw [hpl.run]
    rw [rv] at rc
    have ck := bCheck_spec false P hPo p hp k c hk (by omega) v (some false) (pre ++ (⟨0, b.bound⟩ :: post)) Rec.ok_some (by simp only [List.length_append, List.length_cons, List.length_nil] at hcl2 ⊢; omega)
    rw [pe, ho] at ck
    have ck : pureCall E.P (L E) 30 [roomsV false P, .agg ⟨p.cells⟩, intE.o k c, .int .i64 v, lst false (brR.vals (pre ++ (⟨0, b.bound⟩ :: post)))] = some (.int .i64 (codeC (chk (prQ p.q) A c v (pre ++ (⟨0, b.bound⟩ :: post))))) := ck
    have hcode := (codeC_zero (chk (prQ p.q) A c v (pre ++ (⟨0, b.bound⟩ :: post)))).trans hcut
    generalize codeC (chk (prQ p.q) A c v (pre ++ (⟨0, b.bound⟩ :: post))) = code at *
    rw [← hbb] at rc hcode
    have sT : settled depth (lst false (brR.vals T)) = true := rfl
    have sA : settled depth (lst false (intE.vals A)) = true := rfl
    have sI : ∀ z, settled depth (.int .i64 z) = true := fun z => rfl
    have rT : ∀ h, reify E.P 8 h (lst false (brR.vals T)) = some (lst false (brR.vals T)) := fun h => rfl
    have rC : ∀ h, reify E.P 8 h (intE.o k c) = some (intE.o k c) := fun h => Enc.o_reify
    have rK : ∀ h, reify E.P 8 h (intE.o kc t.c) = some (intE.o kc t.c) := fun h => Enc.o_reify
    have wi : IntKind.i64.wrap ((i : Int) + 1) = (i : Int) + 1 := wrap64 (by omega) (by omega)
    generalize hcutl : pre ++ (⟨0, b.bound⟩ :: post) = cut at *
    generalize hol : pre ++ [b] ++ post = old at *
    generalize ((i + (b :: LS).length : Nat) : Int) = ez at *
    generalize lst false (brR.vals T) = TV at *
    generalize lst false (brR.vals post) = PV at *
    generalize lst false (brR.vals cut) = CutV at *
    generalize lst false (intE.vals A) = AV at *
    generalize intE.o k c = CV at *
    generalize intE.o kc t.c = KV at *
    generalize roomsV false P = RV at *
    by_cases c1 : b.kids = 0
    · have hz : code = 0 := hcode.2 (.inl c1)
      rw [c1] at iT
      subst hz
      simp -implicitDefEqProofs [r11, p11, ret0 m24, sm, ret0 m13, rr, lp, rcp, fw, ret1 m15, sr, ps, bv, ar, lT, h500', hTne, am, arm, lit_b0, wi, tk, ap1, ret0 m34, rT, en, dr, ap2, iT, br_f0, br_f1, ig, fg0, sk, ret1 m35, sA, sT, sI, hpath, ret0 m25, rK, rc, ret0 m30, rC, rl, ck, bin_eqlB, -append_lst]
    · by_cases c2 : b.bound ≤ v
      · have hz : code = 0 := hcode.2 (.inr c2)
        subst hz
        simp -implicitDefEqProofs [r11, p11, ret0 m24, sm, ret0 m13, rr, lp, rcp, fw, ret1 m15, sr, ps, bv, ar, lT, h500', hTne, am, arm, lit_b0, wi, tk, ap1, ret0 m34, rT, en, dr, ap2, iT, br_f0, br_f1, ig, fg0, sk, ret1 m35, sA, sT, sI, hpath, ret0 m25, rK, rc, ret0 m30, rC, rl, ck, c1, c2, bin_eqlB, -append_lst]
      · have hz : ¬ code = 0 := fun h => by
          rcases hcode.1 h with q | q
          · exact c1 q
          · exact c2 q
        simp -implicitDefEqProofs [r11, p11, ret0 m24, sm, ret0 m13, rr, lp, rcp, fw, ret1 m15, sr, ps, bv, ar, lT, h500', hTne, am, arm, lit_b0, wi, tk, ap1, ret0 m34, rT, en, dr, ap2, iT, br_f0, br_f1, ig, fg0, sk, ret1 m35, sA, sT, sI, hpath, ret0 m25, rK, rc, ret0 m30, rC, rl, ck, c1, c2, hz, bin_eqlB, -append_lst]
end Go.Proofs.Ytcnafncmfiogcaa.Bm
