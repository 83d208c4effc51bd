/-
  Chapter 32: the statement on rights that are split. Conditions: what the types say of the arguments.
-/
import Derived.Test.YtjkemccfcabhgaaQA24
import Derived.Test.YtjkemccfcabhgaaQA18
namespace Go.Proofs.Ytjkemccfcabhgaa.Bm
open Go Go.RowKit
open Rg (Rect Pt)
open Cw (limited limited_in top)
theorem at_rem {at_ : Int} {n : Nat} (h0 : 0 < n) (hn : n ≤ 1000000) : ∃ m i : Nat, i < n ∧ aBin E.P .and 3 (.int .i64 at_) (.int .i64 4611686018427387903) = some (.int .i64 (m : Int)) ∧ aBin E.P .rem 3 (.int .i64 (m : Int)) (.int .i64 (n : Int)) = some (.int .i64 (i : Int)) := by
  obtain ⟨m, hm, h1⟩ := and_mask (P := E.P) (t := 3) at_
  refine ⟨m, m % n, Nat.mod_lt _ h0, h1, ?_⟩
  show (if (n : Int) = 0 then none else some (Value.int .i64 ((m : Int).tmod n))) = _
  rw [if_neg (by omega)]
  rfl
theorem Tiny.set {t : Tw} {k : Option Bool} {l : List Rt} (h : Tiny t k l) {r : Rt} (hr : RtTiny r) (i : Nat) : Tiny t (some false) (l.set i r) :=
  ⟨h.tw, h.bs, h.es, Rec.ok_some, by rw [List.length_set]; exact h.len, fun x hx => (List.mem_or_eq_of_mem_set hx).elim (h.rt x) fun e => e ▸ hr⟩
theorem Tiny.built {t : Tw} {k : Option Bool} {l : List Rt} (h : Tiny t k l) (h1 : t.bs.length ≤ 20) (h2 : t.es.length ≤ 20) {f : Ph} (hf : PhTiny f) (lot : Int) : Tiny (builtT t lot f) k l := by
  have e1 : (builtT t lot f).bs.length = t.bs.length + f.vs.length := by show (t.bs ++ newB lot f).length = _; rw [List.length_append]; unfold newB; rw [List.length_map]
  have e2 : (builtT t lot f).es.length = t.es.length + f.gs.length := by show (t.es ++ newE f).length = _; rw [List.length_append]; unfold newE; rw [List.length_map]
  have := hf.vs; have := hf.gs
  exact ⟨⟨h.tw.p, Rec.ok_some, Rec.ok_some, by omega, by omega⟩, by omega, by omega, h.kk, h.len, h.rt⟩
structure Useful (t : Tw) (l : List Rt) (c : Cc) (i : Nat) (r : Rt) (day : Int) : Prop where
  hi : i < l.length
  hr : l[i] = r
  k : Tiny t (some false) l
  kr : RtTiny r
theorem use_zero {r : Rt} {day : Int} (h : useB' r day = 0) : 0 ≤ day ∧ day ≤ 1073741824 ∧ livR r = true ∧ day ≤ r.til := by
  unfold useB' at h
  split at h
  · cases h
  rename_i q
  split at h
  · cases h
  rename_i q2
  split at h
  · cases h
  rename_i q3
  exact ⟨by omega, by omega, by simpa using q2, by omega⟩
theorem use_not {r : Rt} {day : Int} (h : useB' r day ≠ 0) : ¬ (livR r = true ∧ 0 ≤ day ∧ day ≤ r.til ∧ day ≤ 1073741824) := fun q => h (by
  unfold useB'
  rw [if_neg (by omega), if_neg (by rw [q.1]; decide), if_neg (by omega)])
theorem sIn32 (z : Int) : settled depth (.int .i64 z) = true := rfl
set_option maxHeartbeats 8000000 in
theorem use_law (t : Tw) (l : List Rt) (c : Cc) (at_ day : Int) (ha : Args t (some false) l) : ∃ h', L E 5 [twV t, lst false (rtR.vals l), ccV c, .int .i64 at_, .int .i64 day] [] 0 = some (.bool true, h') := by
  have sm := small32_spec
  have fw := few_spec32 t (some false) l ha
  have eR : lst false (rtR.vals l) = rtR.o (some false) l := rfl
  have htr := fun h => tw_reify t h
  have st : settled depth (twV t) = true := twC_set t 6
  have sr : settled depth (rtR.o (some false) l) = true := Rec.o_set
  have rr : ∀ h, reify E.P 8 h (rtR.o (some false) l) = some (rtR.o (some false) l) := fun h => Rec.o_reify
  have ll := fun h => Rec.o_len (R := rtR) (h := h) (k := some false) (l := l) Rec.ok_some
  have lc := sp_len c
  have scc : settled depth (ccV c) = true := rfl
  have sc : settled depth (lst c.x (spanR.vals c.cs)) = true := rfl
  have ccs : ∀ h, reify E.P 8 h (ccV c) = some (ccV c) := fun h => rfl
  rw [eR, L_fn F5 rfl]
  cases hF : fewB t l
  · rw [hF] at fw
    unfold twV twC ccV ccC at *
    generalize tbR.o t.p.kt t.p.ts = VT at *
    generalize pdR.o t.kb t.bs = VB at *
    generalize entR.o t.ke t.es = VE at *
    generalize rtR.o (some false) l = VL at *
    simp -implicitDefEqProofs [r5, p5, ret0 m6, sm, ret0 m7, htr, rr, fw]
    done
  rw [hF] at fw
  obtain ⟨k, k6, kb, ke, _⟩ := few_get ha hF
  by_cases h1 : c.cs.length ≤ 64
  case neg =>
    have h1' : (64 : Int) < (c.cs.length : Int) := by omega
    unfold twV twC ccV ccC at *
    generalize tbR.o t.p.kt t.p.ts = VT at *
    generalize pdR.o t.kb t.bs = VB at *
    generalize entR.o t.ke t.es = VE at *
    generalize rtR.o (some false) l = VL at *
    simp -implicitDefEqProofs [r5, p5, ret0 m6, sm, ret0 m7, htr, rr, fw, lc, h1']
    done
  have h1' : ¬ (64 : Int) < (c.cs.length : Int) := by omega
  by_cases h0 : l = []
  · subst h0
    unfold twV twC ccV ccC at *
    generalize tbR.o t.p.kt t.p.ts = VT at *
    generalize pdR.o t.kb t.bs = VB at *
    generalize entR.o t.ke t.es = VE at *
    generalize rtR.o (some false) [] = VL at *
    simp -implicitDefEqProofs [r5, p5, ret0 m6, sm, ret0 m7, htr, rr, fw, lc, h1', ll]
    done
  have hl0 : 0 < l.length := List.length_pos_iff.2 h0
  have h0' : ¬ ((l.length : Int) = 0) := by omega
  by_cases h2 : c.lim < -1099511627776
  · unfold twV twC ccV ccC at *
    generalize tbR.o t.p.kt t.p.ts = VT at *
    generalize pdR.o t.kb t.bs = VB at *
    generalize entR.o t.ke t.es = VE at *
    generalize rtR.o (some false) l = VL at *
    simp -implicitDefEqProofs [r5, p5, ret0 m6, sm, ret0 m7, htr, rr, fw, lc, h1', ll, h0, h2]
    done
  by_cases h3 : 1099511627776 < c.lim
  · unfold twV twC ccV ccC at *
    generalize tbR.o t.p.kt t.p.ts = VT at *
    generalize pdR.o t.kb t.bs = VB at *
    generalize entR.o t.ke t.es = VE at *
    generalize rtR.o (some false) l = VL at *
    simp -implicitDefEqProofs [r5, p5, ret0 m6, sm, ret0 m7, htr, rr, fw, lc, h1', ll, h0, h2, h3]
    done
  obtain ⟨m, i, hi, a1, a2⟩ := at_rem (at_ := at_) hl0 (by omega)
  have il := Rec.o_index (R := rtR) (s := 7) (t := 58) (kk := .i64) (k := some false) (l := l) rfl Rec.ok_some hi
  obtain ⟨r, hr⟩ : ∃ r, l[i] = r := ⟨_, rfl⟩
  rw [hr, rt_val] at il
  have hm : r ∈ l := by rw [← hr]; exact List.getElem_mem hi
  have kr := k.rt r hm
  have hcl : c.cs.length ≤ 1000000 := by omega
  have hslack := slack_spec t k.tw c hcl (some false) l k.rs
  rw [k.slack c (by omega) (by omega)] at hslack
  have hpeak := peak_spec t k.tw c hcl (some false) l k.rs
  have eR2 : ∀ (n : Int) (W : List Int), pkV ⟨c.nm, n, some false, W⟩ = .agg ⟨[.string c.nm, .int .i64 n, intE.o (some false) W]⟩ := fun n W => rfl
  have eT : l.map (topR t.p.ts c) = topsR t c l := rfl
  rw [eR2, eT] at hpeak
  have lenW : (topsR t c l).length = l.length := by unfold topsR; rw [List.length_map]
  have lI := fun h => Enc.o_len (O := intE) (h := h) (k := some false) (l := topsR t c l) Enc.ok_some
  rw [lenW] at lI
  have iI := Enc.index_o (O := intE) (t := 3) (k := .i64) (x := some false) (l := topsR t c l) (i := i) Enc.ok_some (by rw [lenW]; exact hi)
  have eWi : (topsR t c l)[i]'(by rw [lenW]; exact hi) = topR t.p.ts c r := by unfold topsR; rw [List.getElem_map, hr]
  rw [eWi, iE] at iI
  -- it lapses
  have hlap := lapse_spec r kr.few day
  have kl := lapR_tiny kr day
  have k2 := k.set kl i
  have hrep := replaced_spec false l i (lapR r day) hi (by omega)
  have eo : lst false (rtR.vals (l.set i (lapR r day))) = rtR.o (some false) (l.set i (lapR r day)) := rfl
  rw [eo] at hrep
  have hsl2 := slack_spec t k.tw c hcl (some false) (l.set i (lapR r day)) k2.rs
  rw [k2.slack c (by omega) (by omega), tops_set, sum_set _ _ _ (by rw [lenW]; exact hi), eWi, lap_top] at hsl2
  have rl2 : ∀ h, reify E.P 8 h (rtR.o (some false) (l.set i (lapR r day))) = some (rtR.o (some false) (l.set i (lapR r day))) := fun h => Rec.o_reify
  have sl2 : settled depth (rtR.val (lapR r day)) = true := rt_settled _
  have el : rtR.val (lapR r day) = .agg ⟨[.int .i64 r.id, .int .i64 r.hol, .int .i64 r.lot, lst false (phR.vals (r.ph.map cloP)), .int .i64 r.used, .int .i64 r.til, .bool (r.over || lapB r day)]⟩ := rfl
  have hrv := rt_settled r
  have kin := topR_in t.p.ts c kr
  have ksum := k.sum c
  have kload := k.load c
  have hus := use_spec r kr.few day
  have hlv := liv_spec r kr.few.kp
  have rrv := fun h => rt_reify r h
  rw [el] at hlap hrep sl2
  rw [rt_val] at hlap hus hlv hrv rrv
  have hnot := fun h => use_not (r := r) (day := day) h
  have hzero := fun h => use_zero (r := r) (day := day) h
  have hlz : lapB r day = true → useB' r day ≠ 0 := fun h q => by
    have := (hzero q).2.2.2
    unfold lapB at h
    simp only [Bool.and_eq_true, decide_eq_true_eq] at h
    omega
  -- it is used
  have kup : livR r = true → PhOk (useP r) ∧ PhTiny (useP r) := fun h => useP_tiny kr h
  have huse : livR r = true → ∃ (VS VR VU : Value) , True := fun _ => ⟨undef, undef, undef, trivial⟩
  clear huse
  by_cases hu : useB' r day = 0
  case neg =>
    rw [if_neg hu, if_neg hu] at hus
    have ez : rtR.val zRt = .agg ⟨[.int .i64 0, .int .i64 0, .int .i64 0, .slice none 0 0, .int .i64 0, .int .i64 0, .bool false]⟩ := rfl
    have ep : phR.val zPh = .agg ⟨[.slice none 0 0, .slice none 0 0]⟩ := rfl
    rw [ez, ep] at hus
    have hnn := hnot hu
    unfold twV twC ccV ccC at *
    generalize tbR.o t.p.kt t.p.ts = VT at *
    generalize pdR.o t.kb t.bs = VB at *
    generalize entR.o t.ke t.es = VE at *
    generalize rtR.o (some false) (l.set i (lapR r day)) = VL2 at *
    generalize rtR.o (some false) l = VL at *
    generalize intE.o (some false) (topsR t c l) = VW at *
    generalize (topsR t c l).sum = s0 at *
    generalize topR t.p.ts c r = x at *
    generalize loadT32 t c = n0 at *
    generalize phR.o r.kp r.ph = V1 at *
    generalize lst false (phR.vals (r.ph.map cloP)) = V2 at *
    generalize useB' r day = ub at *
    cases hb : lapB r day
    · rw [hb] at hlap hsl2 hrep sl2
      rw [Bool.or_false] at hlap hrep sl2
      rw [if_neg (by decide), Int.sub_add_cancel] at hsl2
      cases g1 : livR r
      · rw [g1] at hlv
        simp -implicitDefEqProofs [r5, p5, ret0 m6, sm, ret0 m7, htr, rr, fw, lc, h1', ll, h0, h2, h3, a1, a2, il, sIn32, bin_eqlB, ret0 m11, hslack, ccs, scc, st, sr, ret1 m9, hpeak, lI, ret1 m13, hlap, hrv, ret1 m14, sl2, hrep, hsl2, rl2, ret1 m15, hus, hu, ret0 m16, hlv, rrv]
        done
      rw [g1] at hlv
      by_cases g2 : 0 ≤ day
      case neg =>
        simp -implicitDefEqProofs [r5, p5, ret0 m6, sm, ret0 m7, htr, rr, fw, lc, h1', ll, h0, h2, h3, a1, a2, il, sIn32, bin_eqlB, ret0 m11, hslack, ccs, scc, st, sr, ret1 m9, hpeak, lI, ret1 m13, hlap, hrv, ret1 m14, sl2, hrep, hsl2, rl2, ret1 m15, hus, hu, ret0 m16, hlv, rrv, g2]
        done
      by_cases g3 : day ≤ r.til
      case neg =>
        simp -implicitDefEqProofs [r5, p5, ret0 m6, sm, ret0 m7, htr, rr, fw, lc, h1', ll, h0, h2, h3, a1, a2, il, sIn32, bin_eqlB, ret0 m11, hslack, ccs, scc, st, sr, ret1 m9, hpeak, lI, ret1 m13, hlap, hrv, ret1 m14, sl2, hrep, hsl2, rl2, ret1 m15, hus, hu, ret0 m16, hlv, rrv, g2, g3]
        done
      by_cases g4 : day ≤ 1073741824
      case neg =>
        simp -implicitDefEqProofs [r5, p5, ret0 m6, sm, ret0 m7, htr, rr, fw, lc, h1', ll, h0, h2, h3, a1, a2, il, sIn32, bin_eqlB, ret0 m11, hslack, ccs, scc, st, sr, ret1 m9, hpeak, lI, ret1 m13, hlap, hrv, ret1 m14, sl2, hrep, hsl2, rl2, ret1 m15, hus, hu, ret0 m16, hlv, rrv, g2, g3, g4]
        done
      exact (hnn ⟨g1, g2, g3, g4⟩).elim
    · rw [hb] at hlap hsl2 hrep sl2
      rw [Bool.or_true] at hlap hrep sl2
      rw [if_pos rfl, Int.add_zero] at hsl2
      have ea : IntKind.i64.wrap (c.lim - n0 - s0 + x) = c.lim - n0 - (s0 - x) := (wrap64 (by omega) (by omega)).trans (by omega)
      cases g1 : livR r
      · rw [g1] at hlv
        simp -implicitDefEqProofs [r5, p5, ret0 m6, sm, ret0 m7, htr, rr, fw, lc, h1', ll, h0, h2, h3, a1, a2, il, sIn32, bin_eqlB, ea, ret0 m11, hslack, ccs, scc, st, sr, ret1 m9, hpeak, lI, ret1 m13, hlap, hrv, ret1 m14, sl2, hrep, hsl2, rl2, iI, ret1 m15, hus, hu, ret0 m16, hlv, rrv]
        done
      rw [g1] at hlv
      by_cases g2 : 0 ≤ day
      case neg =>
        simp -implicitDefEqProofs [r5, p5, ret0 m6, sm, ret0 m7, htr, rr, fw, lc, h1', ll, h0, h2, h3, a1, a2, il, sIn32, bin_eqlB, ea, ret0 m11, hslack, ccs, scc, st, sr, ret1 m9, hpeak, lI, ret1 m13, hlap, hrv, ret1 m14, sl2, hrep, hsl2, rl2, iI, ret1 m15, hus, hu, ret0 m16, hlv, rrv, g2]
        done
      by_cases g3 : day ≤ r.til
      case neg =>
        simp -implicitDefEqProofs [r5, p5, ret0 m6, sm, ret0 m7, htr, rr, fw, lc, h1', ll, h0, h2, h3, a1, a2, il, sIn32, bin_eqlB, ea, ret0 m11, hslack, ccs, scc, st, sr, ret1 m9, hpeak, lI, ret1 m13, hlap, hrv, ret1 m14, sl2, hrep, hsl2, rl2, iI, ret1 m15, hus, hu, ret0 m16, hlv, rrv, g2, g3]
        done
      by_cases g4 : day ≤ 1073741824
      case neg =>
        simp -implicitDefEqProofs [r5, p5, ret0 m6, sm, ret0 m7, htr, rr, fw, lc, h1', ll, h0, h2, h3, a1, a2, il, sIn32, bin_eqlB, ea, ret0 m11, hslack, ccs, scc, st, sr, ret1 m9, hpeak, lI, ret1 m13, hlap, hrv, ret1 m14, sl2, hrep, hsl2, rl2, iI, ret1 m15, hus, hu, ret0 m16, hlv, rrv, g2, g3, g4]
        done
      exact (hnn ⟨g1, g2, g3, g4⟩).elim
  rw [if_pos hu, if_pos hu, hu] at hus
  obtain ⟨d0, d1, g1, d2⟩ := hzero hu
  have hb : lapB r day = false := by
    cases hb : lapB r day
    · rfl
    · exact absurd hu (hlz hb)
  rw [hb] at hlap hsl2 hrep sl2
  rw [Bool.or_false] at hlap hrep sl2
  rw [if_neg (by decide), Int.sub_add_cancel] at hsl2
  obtain ⟨ko, kt⟩ := kup g1
  have ku := useR_tiny kr
  have kf : PhFew (useP r) := ⟨by have := kt.vs; omega, by have := kt.gs; omega⟩
  have hbt := built_spec t k.tw r.lot (useP r) ko kf
  have kB := k.built kb ke kt r.lot
  have k3 := kB.set ku i
  have hrep3 := replaced_spec false l i (useR r) hi (by omega)
  have eo3 : lst false (rtR.vals (l.set i (useR r))) = rtR.o (some false) (l.set i (useR r)) := rfl
  rw [eo3] at hrep3
  have hpk3 := peak_spec (builtT t r.lot (useP r)) kB.tw c hcl (some false) (l.set i (useR r)) k3.rs
  have eT3 : (l.set i (useR r)).map (topR (builtT t r.lot (useP r)).p.ts c) = topsR t c (l.set i (useR r)) := rfl
  rw [eR2, eT3, built_load] at hpk3
  have hsl3 := slack_spec (builtT t r.lot (useP r)) kB.tw c hcl (some false) (l.set i (useR r)) k3.rs
  have eT4 : topsR (builtT t r.lot (useP r)) c (l.set i (useR r)) = topsR t c (l.set i (useR r)) := rfl
  rw [k3.slack c (by omega) (by omega), built_load, eT4] at hsl3
  have hphs := phase_spec t.p k.tw.p c hcl (useP r) ko kf
  have lenW3 : (topsR t c (l.set i (useR r))).length = l.length := by unfold topsR; rw [List.length_map, List.length_set]
  have lI3 := fun h => Enc.o_len (O := intE) (h := h) (k := some false) (l := topsR t c (l.set i (useR r))) Enc.ok_some
  rw [lenW3] at lI3
  have iI3 := Enc.index_o (O := intE) (t := 3) (k := .i64) (x := some false) (l := topsR t c (l.set i (useR r))) (i := i) Enc.ok_some (by rw [lenW3]; exact hi)
  have eWi3 : (topsR t c (l.set i (useR r)))[i]'(by rw [lenW3]; exact hi) = topR t.p.ts c (useR r) := by unfold topsR; rw [List.getElem_map, List.getElem_set_self]
  rw [eWi3, iE] at iI3
  have hsum3 : (topsR t c (l.set i (useR r))).sum = (topsR t c l).sum - topR t.p.ts c r + topR t.p.ts c (useR r) := by rw [tops_set, sum_set _ _ _ (by rw [lenW]; exact hi), eWi]
  rw [hsum3] at hsl3
  have htops : topR t.p.ts c r = max 0 (phaseL t.p.ts c (useP r) + topR t.p.ts c (useR r)) := by
    unfold topR
    rw [use_loads t.p.ts c r g1, Cw.top_cons]
  have hphb := phaseL_tiny t.p.ts c kt
  have hkin3 := topR_in t.p.ts c ku
  have hlv3 := liv_spec (useR r) ku.few.kp
  have htop0 : livR (useR r) = false → topR t.p.ts c (useR r) = 0 := fun h => by
    unfold topR loadsR leftR
    rw [h]; rfl
  have rl3 : ∀ h, reify E.P 8 h (rtR.o (some false) (l.set i (useR r))) = some (rtR.o (some false) (l.set i (useR r))) := fun h => Rec.o_reify
  have sl3 : settled depth (rtR.o (some false) (l.set i (useR r))) = true := Rec.o_set
  have eu : rtR.val (useR r) = .agg ⟨[.int .i64 r.id, .int .i64 r.hol, .int .i64 r.lot, lst false (phR.vals (r.ph.map cloP)), .int .i64 (r.used + 1), .int .i64 r.til, .bool r.over]⟩ := rfl
  have su3 : settled depth (rtR.val (useR r)) = true := rt_settled _
  have rru := fun h => rt_reify (useR r) h
  have sph := ph_settled (useP r)
  have rph := fun h => ph_reify (useP r) h
  have stB : settled depth (twV (builtT t r.lot (useP r))) = true := twC_set _ 6
  have rtB := fun h => tw_reify (builtT t r.lot (useP r)) h
  have rpn := fun h => pn_reify t.p h
  have ebs : twV (builtT t r.lot (useP r)) = .agg ⟨[opV t.p.d, tbR.o t.p.kt t.p.ts, opV t.p.z, opV t.p.r, opV t.p.c, opV t.p.v, opV t.p.s, .int .i64 t.p.h, opV t.land, opV t.eas, opV t.win, pdR.o (some (t.bs ++ newB r.lot (useP r)).isEmpty) (t.bs ++ newB r.lot (useP r)), entR.o (some (t.es ++ newE (useP r)).isEmpty) (t.es ++ newE (useP r))]⟩ := rfl
  rw [eu] at hus hrep3 hlv3 su3 rru
  rw [ebs] at hbt hpk3 hsl3 stB rtB
  rw [ph_val] at hus hbt hphs sph rph
  unfold twV twC ccV ccC pnV pnC at *
  generalize tbR.o t.p.kt t.p.ts = VT at *
  generalize pdR.o t.kb t.bs = VB at *
  generalize entR.o t.ke t.es = VE at *
  generalize pdR.o (some (t.bs ++ newB r.lot (useP r)).isEmpty) (t.bs ++ newB r.lot (useP r)) = VB3 at *
  generalize entR.o (some (t.es ++ newE (useP r)).isEmpty) (t.es ++ newE (useP r)) = VE3 at *
  generalize rtR.o (some false) (l.set i (lapR r day)) = VL2 at *
  generalize rtR.o (some false) (l.set i (useR r)) = VL3 at *
  generalize rtR.o (some false) l = VL at *
  generalize intE.o (some false) (topsR t c (l.set i (useR r))) = VW3 at *
  generalize intE.o (some false) (topsR t c l) = VW at *
  generalize (topsR t c l).sum = s0 at *
  generalize topR t.p.ts c (useR r) = x3 at *
  generalize topR t.p.ts c r = x at *
  generalize phaseL t.p.ts c (useP r) = y at *
  generalize loadT32 t c = n0 at *
  generalize volR.o (useP r).kv (useP r).vs = V5 at *
  generalize entR.o (useP r).kg (useP r).gs = V6 at *
  generalize phR.o r.kp r.ph = V1 at *
  generalize lst false (phR.vals (r.ph.map cloP)) = V2 at *
  have ew : IntKind.i64.wrap (n0 + y) = n0 + y := wrap64 (by omega) (by omega)
  have hlt : ¬ (c.lim - (n0 + y) - (s0 - x + x3) < c.lim - n0 - s0) := by omega
  cases hz : livR (useR r)
  · rw [hz] at hlv3
    rw [htop0 hz] at iI3
    simp -implicitDefEqProofs [r5, p5, ret0 m6, sm, ret0 m7, htr, rr, fw, lc, h1', ll, h0, h2, h3, a1, a2, il, sIn32, ret0 m11, hslack, ccs, scc, st, sr, ret1 m9, hpeak, lI, ret1 m13, hlap, hrv, ret1 m14, sl2, hrep, hsl2, rl2, ret1 m15, hus, ret0 m16, ret1 m17, hbt, sph, su3, hrep3, hpk3, hsl3, stB, sl3, lI3, iI3, ret0 m18, hphs, rpn, rph, rtB, rl3, ew, hlt, hlv3, rru]
    done
  · rw [hz] at hlv3
    simp -implicitDefEqProofs [r5, p5, ret0 m6, sm, ret0 m7, htr, rr, fw, lc, h1', ll, h0, h2, h3, a1, a2, il, sIn32, ret0 m11, hslack, ccs, scc, st, sr, ret1 m9, hpeak, lI, ret1 m13, hlap, hrv, ret1 m14, sl2, hrep, hsl2, rl2, ret1 m15, hus, ret0 m16, ret1 m17, hbt, sph, su3, hrep3, hpk3, hsl3, stB, sl3, lI3, ret0 m18, hphs, rpn, rph, rtB, rl3, ew, hlt, hlv3, rru]
    done
end Go.Proofs.Ytjkemccfcabhgaa.Bm
namespace Go.Proofs.Ytjkemccfcabhgaa.Bm
open Go Go.RowKit
open Rg (Rect Pt)
open Cw (limited limited_in top top_append_le)
theorem split_top (ts : List Tb) (c : Cc) {r : Rt} {a id : Int} (h : splB r a id = 0) : topR ts c r ≤ topR ts c (splA r a) + topR ts c (splC r a id) ∧ topR ts c (splA r a) ≤ topR ts c r := by
  unfold splB at h
  split at h
  · cases h
  rename_i hv
  split at h
  · cases h
  rename_i hq
  have hv : livR r = true := by simpa using hv
  obtain ⟨h0, h1, h2⟩ := liv_in hv
  have ha1 : r.used < a := by omega
  have ha2 : a < (r.ph.length : Int) := by omega
  have e1 : loadsR ts c r = (r.ph.drop r.used.toNat).map (phaseL ts c) := by unfold loadsR leftR; rw [if_pos hv]
  have e2 : loadsR ts c (splA r a) = ((r.ph.take a.toNat).drop r.used.toNat).map (phaseL ts c) := by
    have el : livR (splA r a) = true := by
      unfold livR
      show (!r.over && (decide (0 ≤ r.used) && decide (r.used < (((r.ph.map cloP).take a.toNat).length : Int)))) = true
      rw [h0, decide_eq_true h1, List.length_take, List.length_map, decide_eq_true (by omega)]; rfl
    unfold loadsR leftR
    rw [if_pos el]
    show (((r.ph.map cloP).take a.toNat).drop r.used.toNat).map (phaseL ts c) = _
    rw [← List.map_take, ← List.map_drop, loads_clo]
  have e3 : loadsR ts c (splC r a id) = (r.ph.drop a.toNat).map (phaseL ts c) := by
    have el : livR (splC r a id) = true := by
      unfold livR
      show (!r.over && (decide ((0 : Int) ≤ 0) && decide ((0 : Int) < (((r.ph.map cloP).drop a.toNat).length : Int)))) = true
      rw [h0, List.length_drop, List.length_map, decide_eq_true (by omega : (0 : Int) < ((r.ph.length - a.toNat : Nat) : Int))]; rfl
    unfold loadsR leftR
    rw [if_pos el]
    show (((r.ph.map cloP).drop a.toNat).drop (0 : Int).toNat).map (phaseL ts c) = _
    rw [show (0 : Int).toNat = 0 from rfl, List.drop_zero, ← List.map_drop, loads_clo]
  have e4 : loadsR ts c r = loadsR ts c (splA r a) ++ loadsR ts c (splC r a id) := by
    rw [e1, e2, e3, ← List.map_append]
    congr 1
    have : r.ph.drop r.used.toNat = ((r.ph.take a.toNat) ++ (r.ph.drop a.toNat)).drop r.used.toNat := by rw [List.take_append_drop]
    rw [this, List.drop_append_of_le_length (by rw [List.length_take]; omega)]
  unfold topR
  rw [e4]
  exact ⟨(top_append_le _ _).1, (top_append_le _ _).2⟩
def lsF (i0 : Nat) : Nat → List Rt → List Rt
  | _, [] => []
  | j, a :: r => if j = i0 then lsF i0 (j + 1) r else a :: lsF i0 (j + 1) r
theorem lsF_cons (i0 j : Nat) (a : Rt) (r : List Rt) : lsF i0 j (a :: r) = if j = i0 then lsF i0 (j + 1) r else a :: lsF i0 (j + 1) r := rfl
theorem lsF_mem (i0 : Nat) : ∀ (l : List Rt) (j : Nat) (r : Rt), r ∈ lsF i0 j l → r ∈ l
  | [], _, _, h => h
  | a :: l, j, r, h => by
    rw [lsF_cons] at h
    split at h
    · exact List.mem_cons_of_mem _ (lsF_mem i0 l _ r h)
    · rcases List.mem_cons.1 h with rfl | h
      · exact List.mem_cons_self
      · exact List.mem_cons_of_mem _ (lsF_mem i0 l _ r h)
theorem lsF_len (i0 : Nat) : ∀ (l : List Rt) (j : Nat), (lsF i0 j l).length ≤ l.length
  | [], _ => Nat.le_refl _
  | a :: l, j => by
    have := lsF_len i0 l (j + 1)
    rw [lsF_cons]
    split
    · rw [List.length_cons]; omega
    · rw [List.length_cons, List.length_cons]; omega
theorem lsF_sum (f : Rt → Int) (i0 : Nat) : ∀ (l : List Rt) (j : Nat), (∀ r ∈ l, 0 ≤ f r) → ((lsF i0 j l).map f).sum ≤ (l.map f).sum
  | [], _, _ => Int.le_refl _
  | a :: l, j, h => by
    have h1 := lsF_sum f i0 l (j + 1) fun r hr => h r (List.mem_cons_of_mem _ hr)
    have h2 := h a List.mem_cons_self
    rw [lsF_cons, List.map_cons, List.sum_cons]
    split
    · omega
    · rw [List.map_cons, List.sum_cons]; omega
def turnT (t : Tw) : Tw := { t with kb := some false, bs := t.bs.reverse, ke := some false, es := t.es.reverse }
theorem turn_load (t : Tw) (c : Cc) : loadT32 (turnT t) c = loadT32 t c := by
  unfold loadT32
  show Cw.nam c.nm t.es.reverse + sumV t.p.ts c (t.bs.reverse.map (·.v)) = _
  rw [Cw.nam_reverse]
  congr 1
  unfold sumV
  rw [List.map_reverse, List.map_reverse, Cw.sum_reverse]
theorem Tiny.turn {t : Tw} {k : Option Bool} {l : List Rt} (h : Tiny t k l) : Tiny (turnT t) (some false) l.reverse :=
  ⟨⟨h.tw.p, Rec.ok_some, Rec.ok_some, by show t.bs.reverse.length ≤ _; rw [List.length_reverse]; exact h.tw.lb, by show t.es.reverse.length ≤ _; rw [List.length_reverse]; exact h.tw.le⟩, by show t.bs.reverse.length ≤ _; rw [List.length_reverse]; exact h.bs, by show t.es.reverse.length ≤ _; rw [List.length_reverse]; exact h.es, Rec.ok_some, by rw [List.length_reverse]; exact h.len, fun r hr => h.rt r (List.mem_reverse.1 hr)⟩
def fz {α : Type} (R : Rec α) (t : TypeId) (l : List α) : AObj := if l.length = 0 then R.row t l else .dead
theorem freeze_fz {α : Type} {R : Rec α} {h : Heap} {lo b : Nat} {t : TypeId} {l : List α} (hob : h[b]? = some (R.row t l)) (hs : szOf E.P t = some (R.m + 1)) (ha : aggT E.P t = some true) (hlo : lo ≤ b) :
    freezeV E.P depth lo h (R.sl b l) = some (lst false (R.vals l), h.set b (fz R t l)) := by
  rw [Rec.freeze_row hob hs ha hlo]
  unfold fz
  by_cases q : l.length = 0
  · rw [if_pos q, if_pos q]
    obtain ⟨hb, e⟩ := List.getElem?_eq_some_iff.1 hob
    have e2 : h.set b (R.row t l) = h := by rw [← e]; exact List.set_getElem_self hb
    rw [e2]
  · rw [if_neg q, if_neg q]
theorem rev_at {α : Type} (l : List α) (i : Nat) (hi : i < l.length) : l.reverse.take (i + 1) = l.reverse.take i ++ [l[l.length - 1 - i]'(by omega)] := by
  rw [List.take_add_one, List.getElem?_reverse hi, List.getElem?_eq_getElem (by omega)]; rfl
theorem rt_lit (h : Heap) (r : Rt) : buildSliceT (some elR) false h 1 #[(0, .agg ⟨[.int .i64 r.id, .int .i64 r.hol, .int .i64 r.lot, phR.o r.kp r.ph, .int .i64 r.used, .int .i64 r.til, .bool r.over]⟩)] = some (lst true (rtR.vals [r]), h) := by
  obtain ⟨a, b, d, k, p, e, f, g⟩ := r
  cases k <;> exact (build_lit' (n := 1) rfl rfl (by decide) (by decide) (by decide)).trans rfl
theorem frz_sl7 {α : Type} {R : Rec α} {h : Heap} {lo b : Nat} {t : TypeId} {l : List α} (hob : h[b]? = some (R.row t l)) (hs : szOf E.P t = some (R.m + 1)) (ha : aggT E.P t = some true) (hlo : lo ≤ b) :
    freezeV E.P 7 lo h (R.sl b l) = some (lst false (R.vals l), h.set b (fz R t l)) := by
  have h1 : freezeV E.P 7 lo h (R.sl b l) = some (lst false (R.vals l), if l.length = 0 then h else h.set b .dead) :=
    frz_agg1 (n := 6) (l := R.vals l) hob hs ha hlo (Rec.vals_flat l).symm Rec.flat_len.symm Rec.vals_len.symm (by omega) (Rec.vals_agg l) (Rec.flat_set l)
  rw [h1]
  unfold fz
  by_cases q : l.length = 0
  · rw [if_pos q, if_pos q]
    obtain ⟨hb, e⟩ := List.getElem?_eq_some_iff.1 hob
    have e2 : h.set b (R.row t l) = h := by rw [← e]; exact List.set_getElem_self hb
    rw [e2]
  · rw [if_neg q, if_neg q]
theorem op_frz {lo : Nat} {h : Heap} {o : Op} : freezeV E.P 7 lo h (opV o) = some (opV o, h) := by
  cases o with
  | none => rfl
  | some p => obtain ⟨x, l⟩ := p; cases x <;> rfl
theorem sTw : szOf E.P 37 = some 13 := by kernel_rfl
theorem aTw : aggT E.P 37 = some true := by kernel_rfl
theorem frz_town (A B C D : AObj) (t : Tw) (VT : Value) (hv : ∀ h, freezeV E.P 7 0 h VT = some (VT, h)) (bs : List Pd) (es : List (ByteArray × Int)) :
    freezeV E.P depth 0 [A, B, C, D, .cells 37 [opV t.p.d, VT, opV t.p.z, opV t.p.r, opV t.p.c, opV t.p.v, opV t.p.s, .int .i64 t.p.h, opV t.land, opV t.eas, opV t.win, pdR.sl 5 bs, entR.sl 6 es] 0, pdR.row 66 bs, entR.row 68 es] (.pointer (some ⟨4, 0, none⟩)) =
    some (cptr (.agg ⟨[opV t.p.d, VT, opV t.p.z, opV t.p.r, opV t.p.c, opV t.p.v, opV t.p.s, .int .i64 t.p.h, opV t.land, opV t.eas, opV t.win, lst false (pdR.vals bs), lst false (entR.vals es)]⟩), [A, B, C, D, .dead, fz pdR 66 bs, fz entR 68 es]) := by
  have e1 := fun (X Y : AObj) => frz_sl7 (R := pdR) (h := [A, B, C, D, X, pdR.row 66 bs, Y]) (lo := 0) (b := 5) (t := 66) (l := bs) rfl sPd aPd (Nat.zero_le _)
  have e2 := fun (X Y : AObj) => frz_sl7 (R := entR) (h := [A, B, C, D, X, Y, entR.row 68 es]) (lo := 0) (b := 6) (t := 68) (l := es) rfl sEn aEn (Nat.zero_le _)
  have hi : ∀ h z, freezeV E.P 7 0 h (.int .i64 z) = some (.int .i64 z, h) := fun _ _ => rfl
  rw [frz_ptr8 (b := 4) rfl sTw aTw (Nat.zero_le _), if_neg (by simp [List.all_cons]; intros; rfl)]
  simp only [List.foldlM_cons, List.foldlM_nil, op_frz, hv, hi, e1, e2, List.set_cons_succ, List.set_cons_zero, List.nil_append, List.cons_append, Option.map_some, Option.bind_eq_bind, Option.bind_some, pure]
theorem sl2_at {h : Heap} {l : List Rt} {n : Nat} {z : Int} (hz : z = (n : Nat) + 1) (hn : n < l.length) : sliceT (.sl 58 ⟨some true, some 7⟩) h (lst false (rtR.vals l)) (some (.int .i64 (n : Int))) (some (.int .i64 z)) none = some (lst false (rtR.vals [l[n]])) := by
  have h1 : ((rtR.vals l).all fun v => (cellsL v).length == 7) = true := Rec.vals_all (R := rtR) l
  rw [slice_all h1, hz, show ((n : Nat) : Int) + 1 = ((n + 1 : Nat) : Int) by omega, Rec.vals_len, bound_nat (by omega), Option.bind_some, bound_nat (by omega)]
  simp only [Option.map_some, Bool.false_and]
  unfold Rec.vals
  rw [← List.map_take, ← List.map_drop, List.take_add_one, List.getElem?_eq_getElem hn, List.drop_append_of_le_length (by rw [List.length_take]; omega), List.drop_eq_nil_of_le (by rw [List.length_take]; omega)]
  rfl
theorem rt_lit2 (h : Heap) (r s : Rt) : buildSliceT (some elR) false h 2 #[(0, .agg ⟨[.int .i64 r.id, .int .i64 r.hol, .int .i64 r.lot, phR.o r.kp r.ph, .int .i64 r.used, .int .i64 r.til, .bool r.over]⟩), (1, .agg ⟨[.int .i64 s.id, .int .i64 s.hol, .int .i64 s.lot, phR.o s.kp s.ph, .int .i64 s.used, .int .i64 s.til, .bool s.over]⟩)] = some (lst true (rtR.vals [r, s]), h) := by
  obtain ⟨a, b, d, k, p, e, f, g⟩ := r
  obtain ⟨a', b', d', k', p', e', f', g'⟩ := s
  cases k <;> cases k' <;> exact (build_lit' (n := 2) rfl rfl (by decide) (by decide) (by decide)).trans rfl
theorem sub_tiny {r : Rt} (h : RtTiny r) {l : List Ph} (hs : ∀ p ∈ l, p ∈ r.ph.map cloP) (hl : l.length ≤ 20) (r' : Rt) (hr : r'.ph = l) (hk : Rec.Ok r'.kp r'.ph) : RtTiny r' := by
  have k := ownR_tiny h
  subst hr
  exact ⟨⟨hk, fun p hp => k.few.ph.ok p (hs p hp), fun p hp => k.few.ph.few p (hs p hp), by omega⟩, hl, fun p hp => k.ph p (hs p hp)⟩
theorem splA_tiny {r : Rt} (h : RtTiny r) (a : Int) : RtTiny (splA r a) := sub_tiny h (l := (r.ph.map cloP).take a.toNat) (fun p hp => List.mem_of_mem_take hp) (by have := h.len; rw [List.length_take, List.length_map]; omega) _ rfl Rec.ok_some
theorem splC_tiny {r : Rt} (h : RtTiny r) (a id : Int) : RtTiny (splC r a id) := sub_tiny h (l := (r.ph.map cloP).drop a.toNat) (fun p hp => List.mem_of_mem_drop hp) (by have := h.len; rw [List.length_drop, List.length_map]; omega) _ rfl Rec.ok_some
set_option maxHeartbeats 8000000 in
theorem split_law (t : Tw) (l : List Rt) (c : Cc) (at_ cut : Int) (ha : Args t (some false) l) : ∃ h', L E 4 [twV t, lst false (rtR.vals l), ccV c, .int .i64 at_, .int .i64 cut] [] 0 = some (.bool true, h') := by
  have sm := small32_spec
  have fw := few_spec32 t (some false) l ha
  have eR : lst false (rtR.vals l) = rtR.o (some false) l := rfl
  have htr := fun h => tw_reify t h
  have st : settled depth (twV t) = true := twC_set t 6
  have sr : settled depth (rtR.o (some false) l) = true := Rec.o_set
  have rr : ∀ h, reify E.P 8 h (rtR.o (some false) l) = some (rtR.o (some false) l) := fun h => Rec.o_reify
  have ll := fun h => Rec.o_len (R := rtR) (h := h) (k := some false) (l := l) Rec.ok_some
  have lc := sp_len c
  have scc : settled depth (ccV c) = true := rfl
  have sc : settled depth (lst c.x (spanR.vals c.cs)) = true := rfl
  have ccs : ∀ h, reify E.P 8 h (ccV c) = some (ccV c) := fun h => rfl
  rw [eR, L_fn F4 rfl]
  cases hF : fewB t l
  · rw [hF] at fw
    unfold twV twC ccV ccC at *
    generalize tbR.o t.p.kt t.p.ts = VT at *
    generalize pdR.o t.kb t.bs = VB at *
    generalize entR.o t.ke t.es = VE at *
    generalize rtR.o (some false) l = VL at *
    simp -implicitDefEqProofs [r4, p4, ret0 m6, sm, ret0 m7, htr, rr, fw]
    done
  rw [hF] at fw
  obtain ⟨k, k6, kb, ke, _⟩ := few_get ha hF
  by_cases h1 : c.cs.length ≤ 64
  case neg =>
    have h1' : (64 : Int) < (c.cs.length : Int) := by omega
    unfold twV twC ccV ccC at *
    generalize tbR.o t.p.kt t.p.ts = VT at *
    generalize pdR.o t.kb t.bs = VB at *
    generalize entR.o t.ke t.es = VE at *
    generalize rtR.o (some false) l = VL at *
    simp -implicitDefEqProofs [r4, p4, ret0 m6, sm, ret0 m7, htr, rr, fw, lc, h1']
    done
  have h1' : ¬ (64 : Int) < (c.cs.length : Int) := by omega
  by_cases h0 : l = []
  · subst h0
    unfold twV twC ccV ccC at *
    generalize tbR.o t.p.kt t.p.ts = VT at *
    generalize pdR.o t.kb t.bs = VB at *
    generalize entR.o t.ke t.es = VE at *
    generalize rtR.o (some false) [] = VL at *
    simp -implicitDefEqProofs [r4, p4, ret0 m6, sm, ret0 m7, htr, rr, fw, lc, h1', ll]
    done
  have hl0 : 0 < l.length := List.length_pos_iff.2 h0
  have h0' : ¬ ((l.length : Int) = 0) := by omega
  by_cases h2 : c.lim < -1099511627776
  · unfold twV twC ccV ccC at *
    generalize tbR.o t.p.kt t.p.ts = VT at *
    generalize pdR.o t.kb t.bs = VB at *
    generalize entR.o t.ke t.es = VE at *
    generalize rtR.o (some false) l = VL at *
    simp -implicitDefEqProofs [r4, p4, ret0 m6, sm, ret0 m7, htr, rr, fw, lc, h1', ll, h0, h2]
    done
  by_cases h3 : 1099511627776 < c.lim
  · unfold twV twC ccV ccC at *
    generalize tbR.o t.p.kt t.p.ts = VT at *
    generalize pdR.o t.kb t.bs = VB at *
    generalize entR.o t.ke t.es = VE at *
    generalize rtR.o (some false) l = VL at *
    simp -implicitDefEqProofs [r4, p4, ret0 m6, sm, ret0 m7, htr, rr, fw, lc, h1', ll, h0, h2, h3]
    done
  obtain ⟨m, i0, hi0, a1, a2⟩ := at_rem (at_ := at_) hl0 (by omega)
  have il := fun (i : Nat) (hi : i < l.length) => Rec.o_index (R := rtR) (s := 7) (t := 58) (kk := .i64) (k := some false) (l := l) rfl Rec.ok_some hi
  obtain ⟨r, hr⟩ : ∃ r, l[i0] = r := ⟨_, rfl⟩
  have ix := il i0 hi0
  rw [hr, rt_val] at ix
  have hm : r ∈ l := by rw [← hr]; exact List.getElem_mem hi0
  have kr := k.rt r hm
  have hcl : c.cs.length ≤ 1000000 := by omega
  have hslack := slack_spec t k.tw c hcl (some false) l k.rs
  rw [k.slack c (by omega) (by omega)] at hslack
  have b1 : ∀ d n, below (d + 1) n (tbR.o t.p.kt t.p.ts) = true := fun d n => Rec.o_bel
  have b2 : ∀ d n, below (d + 1) n (rtR.o (some false) l) = true := fun d n => Rec.o_bel
  have b3 : ∀ d n, below (d + 1) n (pdR.o t.kb t.bs) = true := fun d n => Rec.o_bel
  have b4 : ∀ d n, below (d + 1) n (entR.o t.ke t.es) = true := fun d n => Rec.o_bel
  have ob : ∀ d n o, below (d + 1) n (opV o) = true := fun d n o => op_bel
  have s1 : ∀ n, settled (n + 1) (tbR.o t.p.kt t.p.ts) = true := fun n => Rec.o_set
  have lb := fun h => Rec.o_len (R := pdR) (h := h) ha.tw.kb
  have ib := fun (i : Nat) (hi : i < t.bs.length) => Rec.o_index (R := pdR) (s := 10) (t := 66) (kk := .i64) rfl ha.tw.kb hi
  have le := fun h => Rec.o_len (R := entR) (h := h) ha.tw.ke
  have ie := fun (i : Nat) (hi : i < t.es.length) => oe_ld t.ke t.es i ha.tw.ke hi
  have hpk := fun kx L (hL : RsFew kx L) => peak_spec t k.tw c hcl kx L hL
  have eR2 : ∀ (n : Int) (W : List Int), pkV ⟨c.nm, n, some false, W⟩ = .agg ⟨[.string c.nm, .int .i64 n, intE.o (some false) W]⟩ := fun n W => rfl
  have hvf : ∀ h, freezeV E.P 7 0 h (tbR.o t.p.kt t.p.ts) = some (tbR.o t.p.kt t.p.ts, h) := fun h => frz_set1 (n := 6) Rec.o_set (by cases t.p.kt <;> rfl)
  have hslA := fun (L : List Rt) (kL : Tiny t (some false) L) => (slack_spec t k.tw c hcl (some false) L kL.rs).trans (by rw [kL.slack c (by omega) (by omega)])
  have kT := k.turn
  have hslT := slack_spec (turnT t) kT.tw c hcl (some false) l.reverse kT.rs
  have eTR : (topsR (turnT t) c l.reverse).sum = (topsR t c l).sum := by
    show (l.reverse.map (topR t.p.ts c)).sum = (l.map (topR t.p.ts c)).sum
    rw [List.map_reverse, Cw.sum_reverse]
  rw [kT.slack c (by omega) (by omega), turn_load, eTR] at hslT
  have rtT := fun h => tw_reify (turnT t) h
  have etT : twV (turnT t) = .agg ⟨[opV t.p.d, tbR.o t.p.kt t.p.ts, opV t.p.z, opV t.p.r, opV t.p.c, opV t.p.v, opV t.p.s, .int .i64 t.p.h, opV t.land, opV t.eas, opV t.win, lst false (pdR.vals t.bs.reverse), lst false (entR.vals t.es.reverse)]⟩ := rfl
  have eoL : ∀ L : List Rt, rtR.o (some false) L = lst false (rtR.vals L) := fun _ => rfl
  rw [etT, eoL l.reverse] at hslT
  rw [etT] at rtT
  have hspl := fun id => split_spec r kr.few cut id
  have hrv := rt_settled r
  have rrv := fun h => rt_reify r h
  rw [rt_val] at hrv rrv hspl
  have ezR : rtR.val zRt = .agg ⟨[.int .i64 0, .int .i64 0, .int .i64 0, .slice none 0 0, .int .i64 0, .int .i64 0, .bool false]⟩ := rfl
  have bz := rt_zero
  unfold twV twC ccV ccC at *
  generalize tbR.o t.p.kt t.p.ts = VT at *
  generalize pdR.o t.kb t.bs = VB at *
  generalize entR.o t.ke t.es = VE at *
  generalize hVL : rtR.o (some false) l = VL at *
  simp -implicitDefEqProofs [r4, p4, ret0 m6, sm, ret0 m7, htr, rr, fw, lc, h1', ll, h0, h2, h3, a1, a2, ret0 m11, hslack, ccs, prep_new, newK_nil sRt]
  rw [LL_for (γ := List Rt) l [] (fun i a => [(14, rtR.sl 2 a), (15, rtR.sl 3 (l.reverse.take i)), (16, .int .i64 i)]) (fun i a => [twO t VT VB VE, ccO c, rtR.row 58 a, rtR.row 58 (l.reverse.take i)]) (fun i rest a => (.exit 0, [(14, rtR.sl 2 (a ++ lsF i0 i rest)), (15, rtR.sl 3 l.reverse), (16, undef)], [twO t VT VB VE, ccO c, rtR.row 58 (a ++ lsF i0 i rest), rtR.row 58 l.reverse])) (fun i a => a.length ≤ i) (by omega) (by simp)]
  · rw [List.nil_append]
    have hL1 := lsF_len i0 l 0
    have hL2 := lsF_mem i0 l 0
    have hL3 := lsF_sum (topR t.p.ts c) i0 l 0 fun r hr => (topR_in t.p.ts c (k.rt r hr)).1
    generalize lsF i0 0 l = L1 at *
    unfold twO ccO
    simp -implicitDefEqProofs [k4_9, prep_newc, newcK, isNil, sPd, sEn]
    rw [LL_for (γ := Unit) t.bs () (fun i _ => [(18, .int .i64 i)]) (fun i _ => [twO t VT VB VE, ccO c, rtR.row 58 L1, rtR.row 58 l.reverse, twO t VT (pdR.sl 5 (t.bs.reverse.take i)) (entR.sl 6 []), pdR.row 66 (t.bs.reverse.take i), entR.row 68 []]) (fun i rest _ => (.exit 2, [(18, undef)], [twO t VT VB VE, ccO c, rtR.row 58 L1, rtR.row 58 l.reverse, twO t VT (pdR.sl 5 t.bs.reverse) (entR.sl 6 []), pdR.row 66 t.bs.reverse, entR.row 68 []])) (fun _ _ => True) (by omega) trivial]
    · unfold twO ccO
      simp -implicitDefEqProofs [k4_18]
      rw [LL_for (γ := Unit) t.es () (fun i _ => [(19, .int .i64 i)]) (fun i _ => [twO t VT VB VE, ccO c, rtR.row 58 L1, rtR.row 58 l.reverse, twO t VT (pdR.sl 5 t.bs.reverse) (entR.sl 6 (t.es.reverse.take i)), pdR.row 66 t.bs.reverse, entR.row 68 (t.es.reverse.take i)]) (fun i rest _ => (.exit 4, [(19, undef)], [twO t VT VB VE, ccO c, rtR.row 58 L1, rtR.row 58 l.reverse, twO t VT (pdR.sl 5 t.bs.reverse) (entR.sl 6 t.es.reverse), pdR.row 66 t.bs.reverse, entR.row 68 t.es.reverse])) (fun _ _ => True) (by omega) trivial]
      · have fzt := frz_town (twO t VT VB VE) (ccO c) (rtR.row 58 L1) (rtR.row 58 l.reverse) t VT hvf t.bs.reverse t.es.reverse
        have fz2 := fun (A B C D F G : AObj) => freeze_fz (R := rtR) (h := [A, B, rtR.row 58 L1, C, D, F, G]) (lo := 0) (b := 2) (t := 58) (l := L1) rfl sRt aRt (Nat.zero_le _)
        have fz3 := fun (A B C D F G : AObj) => freeze_fz (R := rtR) (h := [A, B, C, rtR.row 58 l.reverse, D, F, G]) (lo := 0) (b := 3) (t := 58) (l := l.reverse) rfl sRt aRt (Nat.zero_le _)
        have kL1 : Tiny t (some false) L1 := ⟨k.tw, k.bs, k.es, Rec.ok_some, by omega, fun r hr => k.rt r (hL2 r hr)⟩
        have hs1 := hslA L1 kL1
        rw [eoL] at hs1
        have hs2 := hslT
        have r1 : ∀ h, reify E.P 8 h (lst false (rtR.vals L1)) = some (lst false (rtR.vals L1)) := fun h => Rec.o_reify (R := rtR) (k := some false)
        have r2 : ∀ h, reify E.P 8 h (lst false (rtR.vals l.reverse)) = some (lst false (rtR.vals l.reverse)) := fun h => Rec.o_reify (R := rtR) (k := some false)
        have hlt : ¬ (c.lim - loadT32 t c - (topsR t c L1).sum < c.lim - loadT32 t c - (topsR t c l).sum) := by
          unfold topsR; omega
        generalize loadT32 t c = n0 at *
        generalize (topsR t c l).sum = z0 at *
        generalize (topsR t c L1).sum = z1 at *
        generalize lst false (rtR.vals L1) = VL1 at *
        generalize lst false (rtR.vals l.reverse) = VLR at *
        generalize lst false (pdR.vals t.bs.reverse) = VBR at *
        generalize lst false (entR.vals t.es.reverse) = VER at *
        generalize fz rtR 58 L1 = O2 at *
        generalize fz rtR 58 l.reverse = O3 at *
        generalize fz pdR 66 t.bs.reverse = O5 at *
        generalize fz entR 68 t.es.reverse = O6 at *
        by_cases hz : splB r cut (IntKind.i64.wrap (r.id + 1)) = 0
        case neg =>
          have hsp := hspl (IntKind.i64.wrap (r.id + 1))
          rw [if_neg hz, if_neg hz, ezR] at hsp
          generalize splB r cut (IntKind.i64.wrap (r.id + 1)) = sb at *
          unfold twO ccO at *
          simp -implicitDefEqProofs [k4_22, prep_frz, fzt, fz2, fz3, ret0 m11, hs1, hs2, htr, ccs, r1, r2, hlt, ix, ret1 m12, hsp, hrv, sIn32, hz, rtT]
          done
        have hsp := hspl (IntKind.i64.wrap (r.id + 1))
        have hst := split_top t.p.ts c hz
        rw [if_pos hz, if_pos hz, hz] at hsp
        have eA : rtR.val (splA r cut) = .agg ⟨[.int .i64 r.id, .int .i64 r.hol, .int .i64 r.lot, lst true (phR.vals ((r.ph.map cloP).take cut.toNat)), .int .i64 r.used, .int .i64 r.til, .bool r.over]⟩ := rfl
        have eC : rtR.val (splC r cut (IntKind.i64.wrap (r.id + 1))) = .agg ⟨[.int .i64 (IntKind.i64.wrap (r.id + 1)), .int .i64 r.hol, .int .i64 r.lot, lst false (phR.vals ((r.ph.map cloP).drop cut.toNat)), .int .i64 0, .int .i64 r.til, .bool r.over]⟩ := rfl
        rw [eA, eC] at hsp
        have kA := splA_tiny kr cut
        have kC := splC_tiny kr cut (IntKind.i64.wrap (r.id + 1))
        have lt2 : ∀ h, buildSliceT (some elR) false h 2 #[(0, .agg ⟨[.int .i64 r.id, .int .i64 r.hol, .int .i64 r.lot, lst true (phR.vals ((r.ph.map cloP).take cut.toNat)), .int .i64 r.used, .int .i64 r.til, .bool r.over]⟩), (1, .agg ⟨[.int .i64 (IntKind.i64.wrap (r.id + 1)), .int .i64 r.hol, .int .i64 r.lot, lst false (phR.vals ((r.ph.map cloP).drop cut.toNat)), .int .i64 0, .int .i64 r.til, .bool r.over]⟩)] = some (lst true (rtR.vals [splA r cut, splC r cut (IntKind.i64.wrap (r.id + 1))]), h) := fun h => rt_lit2 h (splA r cut) (splC r cut (IntKind.i64.wrap (r.id + 1)))
        have inA := topR_in t.p.ts c kA
        have inC := topR_in t.p.ts c kC
        have one : ∀ x ∈ [r], RtFew x := fun x hx => by
          rw [List.mem_singleton.1 hx]; exact kr.few
        have pk1 := hpk (some false) [r] ⟨Rec.ok_some, one, by simp⟩
        have pk2 := hpk (some true) [splA r cut, splC r cut (IntKind.i64.wrap (r.id + 1))] ⟨Rec.ok_some, fun x hx => by
          rcases List.mem_cons.1 hx with rfl | hx
          · exact kA.few
          · obtain rfl : x = splC r cut (IntKind.i64.wrap (r.id + 1)) := by simpa using hx
            exact kC.few, by simp⟩
        rw [eoL] at pk1
        rw [show rtR.o (some true) [splA r cut, splC r cut (IntKind.i64.wrap (r.id + 1))] = lst true (rtR.vals [splA r cut, splC r cut (IntKind.i64.wrap (r.id + 1))]) from rfl] at pk2
        have m1 : [r].map (topR t.p.ts c) = [topR t.p.ts c r] := rfl
        have m2 : [splA r cut, splC r cut (IntKind.i64.wrap (r.id + 1))].map (topR t.p.ts c) = [topR t.p.ts c (splA r cut), topR t.p.ts c (splC r cut (IntKind.i64.wrap (r.id + 1)))] := rfl
        rw [eR2, m1] at pk1
        rw [eR2, m2] at pk2
        have sl1 := fun h => sl2_at (h := h) (l := l) (n := i0) (z := (i0 : Int) + 1) rfl hi0
        rw [hr] at sl1
        rw [← eoL l, hVL] at sl1
        have wi : IntKind.i64.wrap ((i0 : Int) + 1) = (i0 : Int) + 1 := wrap64 (by omega) (by omega)
        have u1 : settled depth (lst false (rtR.vals [r])) = true := Rec.o_set (R := rtR) (k := some false)
        have u2 : settled depth (lst true (rtR.vals [splA r cut, splC r cut (IntKind.i64.wrap (r.id + 1))])) = true := Rec.o_set (R := rtR) (k := some true)
        have ws : IntKind.i64.wrap (topR t.p.ts c (splA r cut) + topR t.p.ts c (splC r cut (IntKind.i64.wrap (r.id + 1)))) = topR t.p.ts c (splA r cut) + topR t.p.ts c (splC r cut (IntKind.i64.wrap (r.id + 1))) := wrap64 (by omega) (by omega)
        have l1 := fun h => Enc.o_len (O := intE) (h := h) (k := some false) (l := [topR t.p.ts c r]) Enc.ok_some
        have l2 := fun h => Enc.o_len (O := intE) (h := h) (k := some false) (l := [topR t.p.ts c (splA r cut), topR t.p.ts c (splC r cut (IntKind.i64.wrap (r.id + 1)))]) Enc.ok_some
        have i1 := Enc.index_o (O := intE) (t := 3) (k := .i64) (x := some false) (l := [topR t.p.ts c r]) (i := 0) Enc.ok_some (by simp)
        have i2 := Enc.index_o (O := intE) (t := 3) (k := .i64) (x := some false) (l := [topR t.p.ts c (splA r cut), topR t.p.ts c (splC r cut (IntKind.i64.wrap (r.id + 1)))]) (i := 0) Enc.ok_some (by simp)
        have i3 := Enc.index_o (O := intE) (t := 3) (k := .i64) (x := some false) (l := [topR t.p.ts c (splA r cut), topR t.p.ts c (splC r cut (IntKind.i64.wrap (r.id + 1)))]) (i := 1) Enc.ok_some (by simp)
        simp only [List.getElem_cons_zero, List.getElem_cons_succ, iE, List.length_cons, List.length_nil] at i1 i2 i3 l1 l2
        rw [show ((0 : Nat) : Int) = 0 from rfl] at i1 i2
        rw [show ((1 : Nat) : Int) = 1 from rfl] at i3
        generalize topR t.p.ts c (splC r cut (IntKind.i64.wrap (r.id + 1))) = xC at *
        generalize topR t.p.ts c (splA r cut) = xA at *
        generalize topR t.p.ts c r = xr at *
        generalize lst true (rtR.vals [splA r cut, splC r cut (IntKind.i64.wrap (r.id + 1))]) = W2 at *
        generalize lst false (rtR.vals [r]) = W1 at *
        generalize intE.o (some false) [xr] = T1 at *
        generalize intE.o (some false) [xA, xC] = T2 at *
        generalize lst true (phR.vals ((r.ph.map cloP).take cut.toNat)) = Y1 at *
        generalize lst false (phR.vals ((r.ph.map cloP).drop cut.toNat)) = Y2 at *
        unfold twO ccO at *
        simp -implicitDefEqProofs [k4_22, prep_frz, fzt, fz2, fz3, ret0 m11, hs1, hs2, htr, scc, ccs, r1, r2, hlt, ix, ret1 m12, hsp, hrv, sIn32, rtT, sl1, wi, ret1 m9, st, u1, pk1, lt2, u2, pk2, l1, l2, i1, i2, i3, ws, hst.1, hst.2]
        done
      · simp -implicitDefEqProofs [k4_22]
      · rfl
      · intro nx i a hi _
        rw [List.take_of_length_le (by rw [List.length_reverse]; omega)]
        unfold twO ccO
        simp -implicitDefEqProofs [r4_22, k4_22, hi, le, trim_le]
        done
      · intro nx i v rest a hi hv hd hw _ ih
        have ih := ih () trivial
        have hi2 : ((i : Int) < t.es.length) := by omega
        have x2 := ie (t.es.length - 1 - i) (by omega)
        obtain ⟨w, hw2⟩ : ∃ w, t.es[t.es.length - 1 - i]'(by omega) = w := ⟨_, rfl⟩
        rw [hw2] at x2
        have e2 : ((t.es.length - 1 - i : Nat) : Int) = (t.es.length : Int) - 1 - i := by omega
        rw [e2] at x2
        have w1 : IntKind.i64.wrap ((t.es.length : Int) - 1) = (t.es.length : Int) - 1 := wrap64 (by omega) (by omega)
        have w2 : IntKind.i64.wrap ((t.es.length : Int) - 1 - i) = (t.es.length : Int) - 1 - i := wrap64 (by omega) (by omega)
        have hrev := rev_at t.es i hi
        rw [hw2] at hrev
        have lt := fun h => en_lit h w
        simp only [ent_val] at lt
        have ap := fun h (hob : h[6]? = some (entR.row 68 (t.es.reverse.take i))) => Rec.app (R := entR) (el := elE) (h := h) (b := 6) (lo := 0) (acc := t.es.reverse.take i) (m := [w]) (u := lst true (entR.vals [w])) rfl hob (Rec.cells_tree rfl _) (Nat.zero_le _) (by show ((t.es.reverse.take i).length + 1) * 24 ≤ 2 ^ 47; rw [List.length_take]; omega)
        rw [← hrev] at ap
        have co : ∀ W, cellsOf (entR.sl 6 W) = some [entR.sl 6 W] := fun _ => rfl
        have co2 : ∀ W, cellsOf (entR.sl 6 W) = some [entR.sl 6 W] := fun _ => rfl
        generalize t.es.reverse.take (i + 1) = T1 at *
        generalize t.es.reverse.take i = T0 at *
        unfold twO ccO at *
        simp -implicitDefEqProofs [k4_22] at ih
        simp -implicitDefEqProofs [r4_22, k4_22, le, hi2, x2, w1, w2, lt, ap, co, hw, trim_le]
        with_reducible exact ih
    · simp -implicitDefEqProofs [k4_18]
    · rfl
    · intro nx i a hi _
      rw [List.take_of_length_le (by rw [List.length_reverse]; omega)]
      unfold twO ccO
      simp -implicitDefEqProofs [r4_18, k4_18, hi, lb, trim_le]
      done
    · intro nx i v rest a hi hv hd hw _ ih
      have ih := ih () trivial
      have hi2 : ((i : Int) < t.bs.length) := by omega
      have x2 := ib (t.bs.length - 1 - i) (by omega)
      obtain ⟨w, hw2⟩ : ∃ w, t.bs[t.bs.length - 1 - i]'(by omega) = w := ⟨_, rfl⟩
      rw [hw2, pd_val] at x2
      have e2 : ((t.bs.length - 1 - i : Nat) : Int) = (t.bs.length : Int) - 1 - i := by omega
      rw [e2] at x2
      have w1 : IntKind.i64.wrap ((t.bs.length : Int) - 1) = (t.bs.length : Int) - 1 := wrap64 (by omega) (by omega)
      have w2 : IntKind.i64.wrap ((t.bs.length : Int) - 1 - i) = (t.bs.length : Int) - 1 - i := wrap64 (by omega) (by omega)
      have hrev := rev_at t.bs i hi
      rw [hw2] at hrev
      have lt := fun h => pd_lit h w
      simp only [pd_val] at lt
      have ap := fun h (hob : h[5]? = some (pdR.row 66 (t.bs.reverse.take i))) => Rec.app (R := pdR) (el := elPd) (h := h) (b := 5) (lo := 0) (acc := t.bs.reverse.take i) (m := [w]) (u := lst true (pdR.vals [w])) rfl hob (Rec.cells_tree rfl _) (Nat.zero_le _) (by show ((t.bs.reverse.take i).length + 1) * 80 ≤ 2 ^ 47; rw [List.length_take]; omega)
      rw [← hrev] at ap
      have co : ∀ W, cellsOf (pdR.sl 5 W) = some [pdR.sl 5 W] := fun _ => rfl
      have co2 : ∀ W, cellsOf (entR.sl 6 W) = some [entR.sl 6 W] := fun _ => rfl
      generalize t.bs.reverse.take (i + 1) = T1 at *
      generalize t.bs.reverse.take i = T0 at *
      unfold twO ccO at *
      simp -implicitDefEqProofs [k4_18] at ih
      simp -implicitDefEqProofs [r4_18, k4_18, lb, hi2, x2, w1, w2, lt, ap, co, hw, trim_le]
      with_reducible exact ih
  · simp -implicitDefEqProofs [k4_9, Rec.sl_nil]
    done
  · rfl
  · intro nx i a hi _
    show _ = fin _ (.exit 0, [(14, rtR.sl 2 (a ++ [])), (15, rtR.sl 3 l.reverse), (16, undef)], [twO t VT VB VE, ccO c, rtR.row 58 (a ++ []), rtR.row 58 l.reverse])
    rw [List.append_nil, List.take_of_length_le (by rw [List.length_reverse]; omega)]
    unfold twO ccO
    simp -implicitDefEqProofs [r4_9, k4_9, hi, ll, trim_le]
    done
  · intro nx i v rest a hi hv hd hw hz ih
    have hi2 : ((i : Int) < l.length) := by omega
    have x1 := il i hi
    rw [hv, rt_val] at x1
    have x2 := il (l.length - 1 - i) (by omega)
    obtain ⟨w, hw2⟩ : ∃ w, l[l.length - 1 - i]'(by omega) = w := ⟨_, rfl⟩
    rw [hw2, rt_val] at x2
    have e2 : ((l.length - 1 - i : Nat) : Int) = (l.length : Int) - 1 - i := by omega
    rw [e2] at x2
    have w1 : IntKind.i64.wrap ((l.length : Int) - 1) = (l.length : Int) - 1 := wrap64 (by omega) (by omega)
    have w2 : IntKind.i64.wrap ((l.length : Int) - 1 - i) = (l.length : Int) - 1 - i := wrap64 (by omega) (by omega)
    have hrev := rev_at l i hi
    rw [hw2] at hrev
    have lt1 := fun h => rt_lit h v
    have lt2 := fun h => rt_lit h w
    have bv : ∀ d n, below (d + 1) n (phR.o v.kp v.ph) = true := fun d n => Rec.o_bel
    have bw : ∀ d n, below (d + 1) n (phR.o w.kp w.ph) = true := fun d n => Rec.o_bel
    have ap1 := fun h (hob : h[2]? = some (rtR.row 58 a)) => Rec.app (R := rtR) (el := elR) (h := h) (b := 2) (lo := 0) (acc := a) (m := [v]) (u := lst true (rtR.vals [v])) rfl hob (Rec.cells_tree rfl _) (Nat.zero_le _) (by show (a.length + 1) * 72 ≤ 2 ^ 47; omega)
    have ap2 := fun h (hob : h[3]? = some (rtR.row 58 (l.reverse.take i))) => Rec.app (R := rtR) (el := elR) (h := h) (b := 3) (lo := 0) (acc := l.reverse.take i) (m := [w]) (u := lst true (rtR.vals [w])) rfl hob (Rec.cells_tree rfl _) (Nat.zero_le _) (by show ((l.reverse.take i).length + 1) * 72 ≤ 2 ^ 47; rw [List.length_take]; omega)
    rw [← hrev] at ap2
    rw [lsF_cons]
    have ewn : (.int .i64 ((i : Int)) : Value) = .int .i64 (i : Int) := rfl
    unfold twO ccO at *
    by_cases q : i = i0
    · subst q
      rw [if_pos rfl]
      have ih := ih a (by omega)
      generalize l.reverse.take (i + 1) = T1 at *
      generalize l.reverse.take i = T0 at *
      generalize phR.o v.kp v.ph = V1 at *
      generalize phR.o w.kp w.ph = V2 at *
      simp -implicitDefEqProofs [k4_9] at ih
      simp -implicitDefEqProofs [r4_9, k4_9, ll, hi2, x2, w1, w2, lt2, ap2, hw, trim_le]
      with_reducible exact ih
    · have q2 : ¬ ((i : Int) = i0) := by omega
      rw [if_neg q]
      have ih := ih (a ++ [v]) (by rw [List.length_append]; simp; omega)
      rw [show a ++ v :: lsF i0 (i + 1) rest = (a ++ [v]) ++ lsF i0 (i + 1) rest by simp]
      generalize l.reverse.take (i + 1) = T1 at *
      generalize l.reverse.take i = T0 at *
      generalize phR.o v.kp v.ph = V1 at *
      generalize phR.o w.kp w.ph = V2 at *
      simp -implicitDefEqProofs [k4_9, -List.append_assoc] at ih
      simp -implicitDefEqProofs [r4_9, k4_9, ll, hi2, x1, x2, q2, w1, w2, lt1, lt2, ap1, ap2, hw, trim_le, -List.append_assoc]
      with_reducible exact ih
end Go.Proofs.Ytjkemccfcabhgaa.Bm
