/-
  Chapter 32: all reachable states, walked. Conditions: few rights, of few phases.
-/
import Derived.Test.YtjkemccfcabhgaaQA20
namespace Go.Proofs.Ytjkemccfcabhgaa.Bm
open Go Go.RowKit
open Rg (Rect Pt)
open Cw (limited nam nam_cons nam_nil limited_in)
theorem pd_val (p : Pd) : pdR.val p = .agg ⟨[.int .i64 p.lot, .int .i64 p.v.b.x0, .int .i64 p.v.b.y0, .int .i64 p.v.b.x1, .int .i64 p.v.b.y1, .int .i64 p.v.z0, .int .i64 p.v.z1, .int .i64 p.v.u, .int .i64 p.v.n, .bool p.v.x]⟩ := rfl
theorem tw_reify (t : Tw) (h : Heap) : reify E.P 8 h (twV t) = some (twV t) := by
  show (reifyC E.P 7 h (twC t)).map _ = _
  rw [reifyC_set (twC_set t 7)]; rfl
structure TwFew (t : Tw) : Prop where
  p : PnOk t.p
  kb : Rec.Ok t.kb t.bs
  ke : Rec.Ok t.ke t.es
  lb : t.bs.length ≤ 1000
  le : t.es.length ≤ 1000
def twO (t : Tw) (VT VB VE : Value) : AObj := .cells 37 [opV t.p.d, VT, opV t.p.z, opV t.p.r, opV t.p.c, opV t.p.v, opV t.p.s, .int .i64 t.p.h, opV t.land, opV t.eas, opV t.win, VB, VE] 0
def bndT (n z : Int) (i : Nat) : Prop := n ≤ z ∧ z ≤ n + (i : Int) * 1099511627776
theorem bndT_zero {n : Int} : bndT n n 0 := by unfold bndT; omega
theorem bndT_step {n z w : Int} {i : Nat} (h : bndT n z i) (hw : 0 ≤ w ∧ w ≤ 1099511627776) : bndT n (z + w) (i + 1) := by
  unfold bndT at *
  constructor <;> omega
theorem bndT_le {n z : Int} {i : Nat} (h : bndT n z i) (hi : i ≤ 100000) (hn : -1099511627776000 ≤ n ∧ n ≤ 1099511627776000) : -200000000000000000 ≤ z ∧ z ≤ 200000000000000000 := by
  unfold bndT at h
  omega
set_option maxHeartbeats 2000000 in
theorem loadT_spec (t : Tw) (ht : TwFew t) (c : Cc) (hc : c.cs.length ≤ 1000000) : pureCall E.P (L E) 10 [twV t, ccV c] = some (.int .i64 (loadT32 t c)) := by
  have hnam := named_spec t.ke t.es c ht.ke ht.le
  have hld := load_spec t.p ht.p c hc
  have hpr := fun h => pn_reify t.p h
  have hps := pnV_set t.p
  have ll := fun h => Rec.o_len (R := pdR) (h := h) ht.kb
  have il := fun (i : Nat) (hi : i < t.bs.length) => Rec.o_index (R := pdR) (s := 10) (t := 66) (kk := .i64) rfl ht.kb hi
  have ro : ∀ h, reify E.P 8 h (entR.o t.ke t.es) = some (entR.o t.ke t.es) := fun h => Rec.o_reify
  have sl : settled depth (lst c.x (spanR.vals c.cs)) = true := rfl
  have b1 : ∀ d n, below (d + 1) n (tbR.o t.p.kt t.p.ts) = true := fun d n => Rec.o_bel
  have b2 : ∀ d n, below (d + 1) n (pdR.o t.kb t.bs) = true := fun d n => Rec.o_bel
  have b3 : ∀ d n, below (d + 1) n (entR.o t.ke t.es) = true := fun d n => Rec.o_bel
  have ob : ∀ d n o, below (d + 1) n (opV o) = true := fun d n o => op_bel
  have hn := nam_in' c.nm ht.le
  have hlb := ht.lb
  have hlt : loadT32 t c = nam c.nm t.es + sumV t.p.ts c (t.bs.map (·.v)) := rfl
  rw [hlt, pureCall_fn F10 rfl]
  unfold twV twC ccV ccC pnV pnC at *
  generalize tbR.o t.p.kt t.p.ts = VT at *
  generalize pdR.o t.kb t.bs = VB at *
  generalize entR.o t.ke t.es = VE at *
  generalize nam c.nm t.es = n0 at *
  simp -implicitDefEqProofs [r10, p10, ll, ret0 m26, hnam, ro]
  rw [LL_for (γ := Int) t.bs n0 (fun i z => [(5, .int .i64 z), (15, .int .i64 i)]) (fun _ _ => [twO t VT VB VE, ccO c]) (fun i rest z => (.exit 0, [(5, .int .i64 (z + sumV t.p.ts c (rest.map (·.v)))), (15, undef)], [twO t VT VB VE, ccO c])) (fun i z => bndT n0 z i) (by omega) bndT_zero]
  · simp -implicitDefEqProofs [k10_3]
  · simp -implicitDefEqProofs [k10_3]
  · rfl
  · intro nx i z hi _
    have e : sumV t.p.ts c ([].map fun (x : Pd) => x.v) = 0 := rfl
    rw [e]
    unfold ccO twO
    simp -implicitDefEqProofs [r10_3, k10_3, hi, trim_le]
  · intro nx i v rest z hi hv hd hw hz ih
    have hi2 : ((i : Int) < t.bs.length) := by omega
    have x1 := il i hi
    rw [hv, pd_val] at x1
    have hb := bndT_le hz (by omega) hn
    have hin := loadV_in t.p.ts c v.v
    have hs := hld v.v
    rw [vol_val] at hs
    have ih := ih (z + loadV t.p.ts c v.v) (bndT_step hz hin)
    have e1 : IntKind.i64.wrap (z + loadV t.p.ts c v.v) = z + loadV t.p.ts c v.v := wrap64 (by omega) (by omega)
    rw [List.map_cons, sumV_cons, ← Int.add_assoc]
    unfold ccO twO at *
    generalize loadV t.p.ts c v.v = w at *
    simp -implicitDefEqProofs [k10_3, -List.map_map] at ih
    simp -implicitDefEqProofs [r10_3, k10_3, hi2, x1, ret0 m27, hs, hpr, e1, hw, trim_cut, b1, b2, b3, ob, -List.map_map]
    exact ih
def phO (VV VG : Value) : AObj := .cells 77 [VV, VG] 0
def pnO (p : Pn) (VT : Value) : AObj := .cells 30 [opV p.d, VT, opV p.z, opV p.r, opV p.c, opV p.v, opV p.s, .int .i64 p.h] 0
theorem ph_reify (p : Ph) (h : Heap) : reify E.P 8 h (phR.val p) = some (phR.val p) := by
  show (reifyC E.P 7 h (phC p)).map _ = _
  rw [reifyC_set (phC_set p 7)]; rfl
set_option maxHeartbeats 2000000 in
theorem phase_spec (p : Pn) (hp : PnOk p) (c : Cc) (hc : c.cs.length ≤ 1000000) (f : Ph) (hf : PhOk f) (hw : PhFew f) : pureCall E.P (L E) 18 [pnV p, ccV c, phR.val f] = some (.int .i64 (phaseL p.ts c f)) := by
  have hnam := named_spec f.kg f.gs c hf.kg hw.gs
  have hld := load_spec p hp c hc
  have hpr := fun h => pn_reify p h
  have ll := fun h => Rec.o_len (R := volR) (h := h) hf.kv
  have il := fun (i : Nat) (hi : i < f.vs.length) => Rec.o_index (R := volR) (s := 9) (t := 64) (kk := .i64) rfl hf.kv hi
  have ro : ∀ h, reify E.P 8 h (entR.o f.kg f.gs) = some (entR.o f.kg f.gs) := fun h => Rec.o_reify
  have sl : settled depth (lst c.x (spanR.vals c.cs)) = true := rfl
  have b1 : ∀ d n, below (d + 1) n (tbR.o p.kt p.ts) = true := fun d n => Rec.o_bel
  have b2 : ∀ d n, below (d + 1) n (volR.o f.kv f.vs) = true := fun d n => Rec.o_bel
  have b3 : ∀ d n, below (d + 1) n (entR.o f.kg f.gs) = true := fun d n => Rec.o_bel
  have ob : ∀ d n o, below (d + 1) n (opV o) = true := fun d n o => op_bel
  have hn := nam_in' c.nm hw.gs
  have hlb := hw.vs
  have hlt : phaseL p.ts c f = -nam c.nm f.gs + sumV p.ts c f.vs := by unfold phaseL; omega
  have ev : phR.val f = .agg ⟨[volR.o f.kv f.vs, entR.o f.kg f.gs]⟩ := rfl
  rw [hlt, pureCall_fn F18 rfl, ev]
  unfold ccV ccC pnV pnC at *
  generalize tbR.o p.kt p.ts = VT at *
  generalize volR.o f.kv f.vs = VB at *
  generalize entR.o f.kg f.gs = VE at *
  generalize nam c.nm f.gs = n0 at *
  obtain ⟨n1, hn1⟩ : ∃ n1, n1 = -n0 := ⟨_, rfl⟩
  rw [← hn1]
  have e0 : IntKind.i64.wrap (-n0) = n1 := (wrap64 (by omega) (by omega)).trans hn1.symm
  have hn' : -1099511627776000 ≤ n1 ∧ n1 ≤ 1099511627776000 := by omega
  simp -implicitDefEqProofs [r18, p18, ll, ret0 m26, hnam, ro, e0]
  rw [LL_for (γ := Int) f.vs n1 (fun i z => [(7, .int .i64 z), (18, .int .i64 i)]) (fun _ _ => [pnO p VT, ccO c, phO VB VE]) (fun i rest z => (.exit 0, [(7, .int .i64 (z + sumV p.ts c rest)), (18, undef)], [pnO p VT, ccO c, phO VB VE])) (fun i z => bndT n1 z i) (by omega) bndT_zero]
  · simp -implicitDefEqProofs [k18_3]
  · simp -implicitDefEqProofs [k18_3]
  · rfl
  · intro nx i z hi _
    have e : sumV p.ts c [] = 0 := rfl
    rw [e]
    unfold ccO pnO phO
    simp -implicitDefEqProofs [r18_3, k18_3, hi, trim_le]
  · intro nx i v rest z hi hv hd hw hz ih
    have hi2 : ((i : Int) < f.vs.length) := by omega
    have x1 := il i hi
    rw [hv, vol_val] at x1
    have hb := bndT_le hz (by omega) hn'
    have hin := loadV_in p.ts c v
    have hs := hld v
    rw [vol_val] at hs
    have ih := ih (z + loadV p.ts c v) (bndT_step hz hin)
    have e1 : IntKind.i64.wrap (z + loadV p.ts c v) = z + loadV p.ts c v := wrap64 (by omega) (by omega)
    rw [sumV_cons, ← Int.add_assoc]
    unfold ccO pnO phO at *
    generalize loadV p.ts c v = w at *
    simp -implicitDefEqProofs [k18_3] at ih
    simp -implicitDefEqProofs [r18_3, k18_3, hi2, x1, ret0 m27, hs, hpr, e1, hw, trim_cut, b1, b2, b3, ob]
    exact ih
end Go.Proofs.Ytjkemccfcabhgaa.Bm
namespace Go.Proofs.Ytjkemccfcabhgaa.Bm
open Go Go.RowKit
open Rg (Rect Pt)
def kF (k : Option Bool) : Option Bool := k.map fun _ => false
theorem kF_ok {α : Type} {k : Option Bool} {l : List α} (h : Rec.Ok k l) : Rec.Ok (kF k) l := by
  cases k with
  | none => exact h
  | some b => exact Rec.ok_some
theorem sV : szOf E.P 64 = some 9 := by kernel_rfl
theorem aV : aggT E.P 64 = some true := by kernel_rfl
theorem sEn : szOf E.P 68 = some 2 := by kernel_rfl
theorem aEn : aggT E.P 68 = some true := by kernel_rfl
theorem app_r0 {α : Type} {R : Rec α} {el : El} {h : Heap} {lo : Nat} {st : Bool} {u : Value} {m : List α} (hel : el.size = R.m + 1) (hu : sliceCells h el.size u = some (R.flat m, m.length)) (hm : m ≠ []) (hb : m.length * el.bytes ≤ 2 ^ 47) :
    appendT (some el) h lo st (lst true []) u = some (R.sl h.length m, h ++ [R.row el.e m]) := by
  have hm0 : m.length ≠ 0 := fun e => hm (List.eq_nil_of_length_eq_zero e)
  rw [append_lst, hu]
  simp only [Option.bind_some]
  rw [if_neg hm0, if_pos ⟨rfl, by simpa using hb⟩]
  unfold Rec.sl Rec.row
  rw [← Rec.flat_len, hel]
  simp
abbrev elV : El := ⟨64, 9, 72, .agg ⟨[.int .i64 0, .int .i64 0, .int .i64 0, .int .i64 0, .int .i64 0, .int .i64 0, .int .i64 0, .int .i64 0, .bool false]⟩, ⟨some true, some 9⟩⟩
abbrev elE : El := ⟨68, 2, 24, .agg ⟨[.string ⟨⟨[]⟩⟩, .int .i64 0]⟩, ⟨some true, some 2⟩⟩
theorem cloV_spec (k : Option Bool) (l : List Vo) (hk : Rec.Ok k l) (hl : l.length ≤ 1000) : pureCall E.P (L E) 40 [volR.o k l] = some (volR.o (kF k) l) := by
  have ho : E.orc 40 = some (cloG E0 40) := rfl
  have hR : rfnOf E0 40 = some r40 := by kernel_rfl
  unfold pureCall
  cases k with
  | none =>
    have eq : aBin E0.P .eql 75 (.slice none 0 0) (.slice none 0 0) = some (.bool true) := by kernel_rfl
    show (L E _ [.slice none 0 0] [] 0).bind _ = _
    rw [L_orc ho, cloG_some rfl, evF_one hR rfl]
    simp -implicitDefEqProofs [r40, p40, eq]
    rfl
  | some x =>
    cases l with
    | nil =>
      show (L E _ [lst x []] [] 0).bind _ = _
      rw [L_orc ho, cloG_none]
      rfl
    | cons v l =>
      have he : emptyT [lst x (volR.vals (v :: l))] = false := by cases x <;> rfl
      have eq : aBin E0.P .eql 75 (lst x (volR.vals (v :: l))) (.slice none 0 0) = some (.bool false) := by cases x <;> kernel_rfl
      have ap := app_r0 (R := volR) (el := elV) (h := []) (lo := 0) (st := false) (u := lst x (volR.vals (v :: l))) (m := v :: l) rfl (Rec.cells_tree rfl _) (by simp) (by show (v :: l).length * 72 ≤ 2 ^ 47; omega)
      have lit : buildSliceT (some elV) true [] 0 ⟨[]⟩ = some (lst true [], []) := build_none.trans rfl
      have rr := Rec.reifyR_row (R := volR) (P := E.P) (h := [volR.row 64 (v :: l)]) (b := 0) (t := 64) (l := v :: l) rfl sV aV
      show (L E _ [lst x (volR.vals (v :: l))] [] 0).bind _ = _
      rw [L_orc ho, cloG_some he, evF_one hR rfl]
      generalize lst x (volR.vals (v :: l)) = V at *
      simp -implicitDefEqProofs [r40, p40, eq, lit, ap, -append_lst, rr]
      rfl
theorem cloE_spec (k : Option Bool) (l : List (ByteArray × Int)) (hk : Rec.Ok k l) (hl : l.length ≤ 1000) : pureCall E.P (L E) 41 [entR.o k l] = some (entR.o (kF k) l) := by
  have ho : E.orc 41 = some (cloG E0 41) := rfl
  have hR : rfnOf E0 41 = some r41 := by kernel_rfl
  unfold pureCall
  cases k with
  | none =>
    have eq : aBin E0.P .eql 35 (.slice none 0 0) (.slice none 0 0) = some (.bool true) := by kernel_rfl
    show (L E _ [.slice none 0 0] [] 0).bind _ = _
    rw [L_orc ho, cloG_some rfl, evF_one hR rfl]
    simp -implicitDefEqProofs [r41, p41, eq]
    rfl
  | some x =>
    cases l with
    | nil =>
      show (L E _ [lst x []] [] 0).bind _ = _
      rw [L_orc ho, cloG_none]
      rfl
    | cons v l =>
      have he : emptyT [lst x (entR.vals (v :: l))] = false := by cases x <;> rfl
      have eq : aBin E0.P .eql 35 (lst x (entR.vals (v :: l))) (.slice none 0 0) = some (.bool false) := by cases x <;> kernel_rfl
      have ap := app_r0 (R := entR) (el := elE) (h := []) (lo := 0) (st := false) (u := lst x (entR.vals (v :: l))) (m := v :: l) rfl (Rec.cells_tree rfl _) (by simp) (by show (v :: l).length * 24 ≤ 2 ^ 47; omega)
      have lit : buildSliceT (some elE) true [] 0 ⟨[]⟩ = some (lst true [], []) := build_none.trans rfl
      have rr := Rec.reifyR_row (R := entR) (P := E.P) (h := [entR.row 68 (v :: l)]) (b := 0) (t := 68) (l := v :: l) rfl sEn aEn
      show (L E _ [lst x (entR.vals (v :: l))] [] 0).bind _ = _
      rw [L_orc ho, cloG_some he, evF_one hR rfl]
      generalize lst x (entR.vals (v :: l)) = V at *
      simp -implicitDefEqProofs [r41, p41, eq, lit, ap, -append_lst, rr]
      rfl
end Go.Proofs.Ytjkemccfcabhgaa.Bm
namespace Go.Proofs.Ytjkemccfcabhgaa.Bm
open Go Go.RowKit
open Rg (Rect Pt)
def cloP (p : Ph) : Ph := ⟨kF p.kv, p.vs, kF p.kg, p.gs⟩
theorem cloP_ok {p : Ph} (h : PhOk p) : PhOk (cloP p) := ⟨kF_ok h.kv, kF_ok h.kg⟩
theorem cloP_few {p : Ph} (h : PhFew p) : PhFew (cloP p) := ⟨h.vs, h.gs⟩
theorem cloP_load (ts : List Tb) (c : Cc) (p : Ph) : phaseL ts c (cloP p) = phaseL ts c p := rfl
theorem sPh : szOf E.P 77 = some 2 := by kernel_rfl
theorem aPh : aggT E.P 77 = some true := by kernel_rfl
theorem ph_val (p : Ph) : phR.val p = .agg ⟨[volR.o p.kv p.vs, entR.o p.kg p.gs]⟩ := rfl
theorem ph_build (k m : Option Bool) (l : List Vo) (g : List (ByteArray × Int)) : buildT (.fs ⟨[.slice none 0 0, .slice none 0 0]⟩ ⟨[(0, 1), (1, 1)]⟩) #[(0, volR.o k l), (1, entR.o m g)] = some (.agg ⟨[volR.o k l, entR.o m g]⟩) := by
  cases k <;> cases m <;> rfl
abbrev elP : El := ⟨77, 2, 48, .agg ⟨[.slice none 0 0, .slice none 0 0]⟩, ⟨some true, some 2⟩⟩
theorem ph_lit (h : Heap) (p : Ph) : buildSliceT (some elP) false h 1 #[(0, .agg ⟨[volR.o p.kv p.vs, entR.o p.kg p.gs]⟩)] = some (lst true (phR.vals [p]), h) := by
  obtain ⟨k, l, m, g⟩ := p
  cases k <;> cases m <;> exact (build_lit' (n := 1) rfl rfl (by decide) (by decide) (by decide)).trans rfl
structure PhsOk (l : List Ph) : Prop where
  ok : ∀ p ∈ l, PhOk p
  few : ∀ p ∈ l, PhFew p
  len : l.length ≤ 1000
set_option maxHeartbeats 2000000 in
theorem phases_spec (k : Option Bool) (l : List Ph) (hk : Rec.Ok k l) (hl : PhsOk l) : pureCall E.P (L E) 28 [phR.o k l] = some (lst false (phR.vals (l.map cloP))) := by
  have ll := fun h => Rec.o_len (R := phR) (h := h) hk
  have il := fun (i : Nat) (hi : i < l.length) => Rec.o_index (R := phR) (s := 2) (t := 77) (kk := .i64) rfl hk hi
  have vb : ∀ d n, below (d + 1) n (phR.o k l) = true := fun d n => Rec.o_bel
  have hlen := hl.len
  generalize phR.o k l = VL at *
  rw [pureCall_fn F28 rfl]
  simp -implicitDefEqProofs [r28, p28, ll, prep_new, newK_nil sPh]
  rw [LL_for (γ := List Ph) l [] (fun i acc => [(3, phR.sl 0 acc), (8, .int .i64 i)]) (fun _ acc => [phR.row 77 acc]) (fun i rest acc => (.exit 0, [(3, phR.sl 0 (acc ++ rest.map cloP)), (8, undef)], [phR.row 77 (acc ++ rest.map cloP)])) (fun i acc => acc.length = i) (by omega) rfl]
  · have rr := Rec.reifyR_row (R := phR) (P := E.P) (h := [phR.row 77 (l.map cloP)]) (b := 0) (t := 77) (l := l.map cloP) rfl sPh aPh
    simp -implicitDefEqProofs [k28_3, rr]
  · simp -implicitDefEqProofs [k28_3, Rec.sl_nil]
  · rfl
  · intro nx i acc hi _
    rw [List.map_nil, List.append_nil]
    simp -implicitDefEqProofs [r28_3, k28_3, hi, trim_le]
  · intro nx i v rest acc hi hv hd hw ha ih
    have hi2 : ((i : Int) < l.length) := by omega
    have x1 := il i hi
    rw [hv, ph_val] at x1
    have hm : v ∈ l := by rw [← hv]; exact List.getElem_mem hi
    have hok := hl.ok v hm
    have hfew := hl.few v hm
    have c1 := cloV_spec v.kv v.vs hok.kv hfew.vs
    have c2 := cloE_spec v.kg v.gs hok.kg hfew.gs
    have bd := ph_build (kF v.kv) (kF v.kg) v.vs v.gs
    have lt := fun h => ph_lit h (cloP v)
    have s1 : settled depth (volR.o v.kv v.vs) = true := Rec.o_set
    have s2 : settled depth (entR.o v.kg v.gs) = true := Rec.o_set
    have b1 : ∀ d n, below (d + 1) n (volR.o v.kv v.vs) = true := fun d n => Rec.o_bel
    have b2 : ∀ d n, below (d + 1) n (entR.o v.kg v.gs) = true := fun d n => Rec.o_bel
    have ap := fun h (hob : h[0]? = some (phR.row 77 acc)) => Rec.app (R := phR) (el := elP) (h := h) (b := 0) (lo := 0) (acc := acc) (m := [cloP v]) (u := lst true (phR.vals [cloP v])) rfl hob (Rec.cells_tree rfl _) (Nat.zero_le _) (by show (acc.length + 1) * 48 ≤ 2 ^ 47; omega)
    have ih := ih (acc ++ [cloP v]) (by rw [List.length_append, ha]; rfl)
    rw [List.map_cons, show acc ++ cloP v :: rest.map cloP = (acc ++ [cloP v]) ++ rest.map cloP by simp]
    have e1 : volR.o (cloP v).kv (cloP v).vs = volR.o (kF v.kv) v.vs := rfl
    have e2 : entR.o (cloP v).kg (cloP v).gs = entR.o (kF v.kg) v.gs := rfl
    rw [e1, e2] at lt
    generalize volR.o (kF v.kv) v.vs = V1 at *
    generalize entR.o (kF v.kg) v.gs = V2 at *
    simp -implicitDefEqProofs [k28_3, -List.append_assoc] at ih
    simp -implicitDefEqProofs [r28_3, k28_3, hi2, x1, ret1 m40, c1, s1, ret1 m41, c2, s2, bd, lt, ap, hw, trim_cut, vb, Rec.row_bel, Rec.sl_bel, -List.append_assoc]
    exact ih
end Go.Proofs.Ytjkemccfcabhgaa.Bm
namespace Go.Proofs.Ytjkemccfcabhgaa.Bm
open Go Go.RowKit
open Rg (Rect Pt)
open Cw (top pre pre_le pre_top pre_len)
theorem rt_val (r : Rt) : rtR.val r = .agg ⟨[.int .i64 r.id, .int .i64 r.hol, .int .i64 r.lot, phR.o r.kp r.ph, .int .i64 r.used, .int .i64 r.til, .bool r.over]⟩ := rfl
theorem rt_reify (r : Rt) (h : Heap) : reify E.P 8 h (rtR.val r) = some (rtR.val r) := by
  show (reifyC E.P 7 h (rtC r)).map _ = _
  rw [reifyC_set (rtC_set r 7)]; rfl
structure RtFew (r : Rt) : Prop where
  kp : Rec.Ok r.kp r.ph
  ph : PhsOk r.ph
def ownR (r : Rt) : Rt := { r with kp := some false, ph := r.ph.map cloP }
theorem ownR_few {r : Rt} (h : RtFew r) : RtFew (ownR r) :=
  ⟨Rec.ok_some, fun p hp => by obtain ⟨q, hq, rfl⟩ := List.mem_map.1 hp; exact cloP_ok (h.ph.ok q hq), fun p hp => by obtain ⟨q, hq, rfl⟩ := List.mem_map.1 hp; exact cloP_few (h.ph.few q hq), by show (r.ph.map cloP).length ≤ 1000; rw [List.length_map]; exact h.ph.len⟩
theorem own_spec (r : Rt) (hr : RtFew r) : pureCall E.P (L E) 29 [rtR.val r] = some (rtR.val (ownR r)) := by
  have hp := phases_spec r.kp r.ph hr.kp hr.ph
  have s1 : settled depth (phR.o r.kp r.ph) = true := Rec.o_set
  rw [rt_val, rt_val, pureCall_fn F29 rfl]
  show _ = some (Value.agg ⟨[.int .i64 r.id, .int .i64 r.hol, .int .i64 r.lot, lst false (phR.vals (r.ph.map cloP)), .int .i64 r.used, .int .i64 r.til, .bool r.over]⟩)
  generalize phR.o r.kp r.ph = V at *
  generalize phR.vals (r.ph.map cloP) = W at *
  simp -implicitDefEqProofs [r29, p29, ret1 m28, hp, s1, reifyC_set]
theorem liv_spec (r : Rt) (hk : Rec.Ok r.kp r.ph) : pureCall E.P (L E) 16 [rtR.val r] = some (.bool (livR r)) := by
  have ll := fun h => Rec.o_len (R := phR) (h := h) hk
  rw [rt_val, pureCall_fn F16 rfl]
  unfold livR
  generalize phR.o r.kp r.ph = V at *
  cases ho : r.over
  case true => simp -implicitDefEqProofs [r16, p16]
  by_cases h1 : 0 ≤ r.used
  case neg => simp -implicitDefEqProofs [r16, p16, h1]
  simp -implicitDefEqProofs [r16, p16, ll, h1]
theorem rec_drop {α : Type} {R : Rec α} {x : Bool} {t : TypeId} {g : Option Bool} {h : Heap} {l : List α} {n : Nat} {k : IntKind} (hn : n ≤ l.length) {s : Nat} (hs : s = R.m + 1) : sliceT (.sl t ⟨g, some s⟩) h (lst x (R.vals l)) (some (.int k (n : Int))) none none = some (lst x (R.vals (l.drop n))) := by
  subst hs
  have := slice_drop (h := h) (x := x) (t := t) (g := g) (k := k) (Rec.vals_all (R := R) l) (rfl : ((n : Nat) : Int) = ((n : Nat) : Int)) (by rw [Rec.vals_len]; exact hn)
  rw [this]
  unfold Rec.vals
  rw [List.map_drop]
def kL (r : Rt) : Option Bool := if livR r = true then some false else none
theorem kL_ok (r : Rt) : Rec.Ok (kL r) ((leftR r).map cloP) := by
  unfold kL leftR
  cases livR r
  · exact fun _ => rfl
  · exact Rec.ok_some
theorem PhsOk.drop {l : List Ph} (h : PhsOk l) (n : Nat) : PhsOk (l.drop n) := ⟨fun p hp => h.ok p (List.mem_of_mem_drop hp), fun p hp => h.few p (List.mem_of_mem_drop hp), by rw [List.length_drop]; have := h.len; omega⟩
theorem left_spec (r : Rt) (hr : RtFew r) : pureCall E.P (L E) 30 [rtR.val r] = some (phR.o (kL r) ((leftR r).map cloP)) := by
  have hl := liv_spec r hr.kp
  have hrr := fun h => rt_reify r h
  rw [rt_val] at hl hrr ⊢
  rw [pureCall_fn F30 rfl]
  unfold kL leftR
  cases h : livR r
  · rw [h] at hl
    generalize phR.o r.kp r.ph = V at *
    simp -implicitDefEqProofs [r30, p30, ret0 m16, hl, hrr]
    rfl
  · rw [h] at hl
    have hu : 0 ≤ r.used ∧ r.used < r.ph.length := by
      unfold livR at h
      simp only [Bool.and_eq_true, decide_eq_true_eq] at h
      exact h.2
    obtain ⟨x, hx⟩ : ∃ x, r.kp = some x := by
      cases hk : r.kp with
      | none => have := hr.kp hk; rw [this] at hu; simp at hu; omega
      | some x => exact ⟨x, rfl⟩
    have dr := fun h => rec_drop (R := phR) (x := x) (t := 77) (g := some true) (h := h) (l := r.ph) (n := r.used.toNat) (k := .i64) (s := 2) (by omega) rfl
    rw [Int.toNat_of_nonneg hu.1] at dr
    have hp := phases_spec (some x) (r.ph.drop r.used.toNat) Rec.ok_some (hr.ph.drop _)
    have e1 : phR.o r.kp r.ph = lst x (phR.vals r.ph) := by rw [hx]; rfl
    have e2 : phR.o (some x) (r.ph.drop r.used.toNat) = lst x (phR.vals (r.ph.drop r.used.toNat)) := rfl
    have s1 : settled depth (lst x (phR.vals (r.ph.drop r.used.toNat))) = true := rfl
    rw [← e1] at dr
    rw [e2] at hp
    generalize lst x (phR.vals (r.ph.drop r.used.toNat)) = W at *
    generalize phR.o r.kp r.ph = V at *
    simp -implicitDefEqProofs [r30, p30, ret0 m16, hl, hrr, dr, ret1 m28, hp, s1]
    rfl
end Go.Proofs.Ytjkemccfcabhgaa.Bm
namespace Go.Proofs.Ytjkemccfcabhgaa.Bm
open Go Go.RowKit
open Rg (Rect Pt)
open Cw (top pre pre_le pre_top pre_len IsMax max_unique)
abbrev elI : El := ⟨3, 1, 8, .int .i64 0, ⟨some false, some 1⟩⟩
theorem lit_int (h : Heap) (z : Int) : buildSliceT (some elI) false h 1 #[(0, .int .i64 z)] = some (lst true (intE.vals [z]), h) := Enc.lit (O := intE) z rfl rfl rfl
theorem sI : szOf E.P 3 = some 1 := by kernel_rfl
theorem aI : aggT E.P 3 = some false := by kernel_rfl
theorem iE (z : Int) : intE.e z = .int .i64 z := rfl
structure Small (l : List Int) : Prop where
  lo : ∀ x ∈ l, -2199023255552000 ≤ x
  hi : ∀ x ∈ l, x ≤ 2199023255552000
  len : l.length ≤ 1000
def bndP (n : Int) (i : Nat) : Prop := -(i : Int) * 2199023255552000 ≤ n ∧ n ≤ (i : Int) * 2199023255552000
theorem bndP_step {z w : Int} {i : Nat} (h : bndP z i) (h1 : -2199023255552000 ≤ w) (h2 : w ≤ 2199023255552000) : bndP (z + w) (i + 1) := by
  unfold bndP at *
  constructor <;> omega
theorem bndP_le {z : Int} {i : Nat} (h : bndP z i) (hi : i ≤ 1000) : -2199023255552000000 ≤ z ∧ z ≤ 2199023255552000000 := by
  unfold bndP at h
  omega
theorem pre_cons (n a : Int) (l : List Int) : pre n (a :: l) = (n + a) :: pre (n + a) l := rfl
set_option maxHeartbeats 2000000 in
theorem prefixes_spec (k : Option Bool) (l : List Int) (hk : Enc.Ok k l) (hl : Small l) : pureCall E.P (L E) 32 [intE.o k l] = some (lst false (intE.vals (0 :: pre 0 l))) := by
  have ll := fun h => Enc.o_len (O := intE) (h := h) hk
  have il := fun (i : Nat) (hi : i < l.length) => Enc.index_o (O := intE) (t := 3) (k := .i64) hk hi
  have vb : ∀ d n, below (d + 1) n (intE.o k l) = true := fun d n => Enc.o_bel
  have hlen := hl.len
  generalize intE.o k l = VL at *
  rw [pureCall_fn F32 rfl]
  have l0 : buildSliceT (some elI) true [] 1 #[(0, .int .i64 0)] = some (Enc.sl 0 ([0] : List Int), [intE.row 3 [0]]) := by
    rw [build_one' rfl rfl rfl, if_pos rfl]; rfl
  simp -implicitDefEqProofs [r32, p32, ll, l0]
  rw [LL_for (γ := List Int × Int) l ([0], 0) (fun i a => [(3, Enc.sl 0 a.1), (9, .int .i64 i)]) (fun _ a => [intE.row 3 a.1]) (fun i rest a => (.exit 0, [(3, Enc.sl 0 (a.1 ++ pre a.2 rest)), (9, undef)], [intE.row 3 (a.1 ++ pre a.2 rest)])) (fun i a => a.1.length = i + 1 ∧ a.1[i]? = some a.2 ∧ bndP a.2 i) (by omega) ⟨rfl, rfl, by unfold bndP; omega⟩]
  · have rr := Enc.reifyR_sl (O := intE) (P := E.P) (h := [intE.row 3 ([0] ++ pre 0 l)]) (b := 0) (t := 3) (l := [0] ++ pre 0 l) rfl sI aI
    have e : (0 :: pre 0 l) = [0] ++ pre 0 l := rfl
    rw [e]
    generalize [0] ++ pre 0 l = W at *
    simp -implicitDefEqProofs [k32_3, rr]
  · simp -implicitDefEqProofs [k32_3]
  · rfl
  · intro nx i a hi _
    show _ = fin _ (.exit 0, [(3, Enc.sl 0 (a.1 ++ [])), (9, undef)], [intE.row 3 (a.1 ++ [])])
    rw [List.append_nil]
    simp -implicitDefEqProofs [r32_3, k32_3, hi, trim_le]
  · intro nx i v rest a hi hv hd hw ha ih
    obtain ⟨acc, n⟩ := a
    obtain ⟨h1, h2, h3⟩ := ha
    simp only at h1 h2 h3
    have hi2 : ((i : Int) < l.length) := by omega
    have x1 := il i hi
    rw [hv] at x1
    have hm : v ∈ l := by rw [← hv]; exact List.getElem_mem hi
    have hb := bndP_le h3 (by omega)
    have hv1 := hl.lo v hm
    have hv2 := hl.hi v hm
    have hia : i < acc.length := by omega
    have e2 : acc[i] = n := by
      rw [List.getElem?_eq_getElem hia] at h2
      exact Option.some.inj h2
    have ix := Enc.sl_index (l := acc) (b := 0) (t := 3) (g := some false) (k := .i64) hia
    have ld := fun h (hob : h[0]? = some (intE.row 3 acc)) => Enc.load_at (O := intE) (l := acc) (b := 0) (t := 3) (sz := some 1) (h := h) hob hia
    rw [e2] at ld
    have ew : IntKind.i64.wrap (n + v) = n + v := wrap64 (by omega) (by omega)
    have lt := fun h => lit_int h (n + v)
    have ap := fun h (hob : h[0]? = some (intE.row 3 acc)) => Enc.app (O := intE) (el := elI) (h := h) (b := 0) (lo := 0) (l := acc) (m := [n + v]) (u := lst true (intE.vals [n + v])) rfl hob Enc.cells_tree (Nat.zero_le _) (by show (acc.length + 1) * 8 ≤ 2 ^ 47; omega)
    have ih := ih (acc ++ [n + v], n + v) ⟨by simp [h1], by simp [h1], bndP_step h3 hv1 hv2⟩
    rw [pre_cons, show acc ++ (n + v) :: pre (n + v) rest = (acc ++ [n + v]) ++ pre (n + v) rest by simp]
    simp -implicitDefEqProofs [k32_3, -List.append_assoc] at ih
    simp -implicitDefEqProofs [r32_3, k32_3, hi2, x1, ix, ld, ew, lt, ap, hw, trim_le, -List.append_assoc, iE]
    exact ih
def maxF (a : Int) (l : List Int) : Int := l.foldl max a
theorem maxF_cons (a b : Int) (l : List Int) : maxF a (b :: l) = maxF (max a b) l := rfl
theorem maxF_is : ∀ (l : List Int) (a : Int), IsMax (a :: l) (maxF a l)
  | [], a => ⟨by show a ∈ [a]; simp, fun x hx => by simp at hx; rw [hx]; exact Int.le_refl _⟩
  | b :: l, a => by
    rw [maxF_cons]
    obtain ⟨h1, h2⟩ := maxF_is l (max a b)
    have h3 := h2 (max a b) List.mem_cons_self
    refine ⟨?_, fun x hx => ?_⟩
    · rcases List.mem_cons.1 h1 with h | h
      · by_cases q : a ≤ b
        · rw [h, Int.max_eq_right q]; simp
        · rw [h, Int.max_eq_left (by omega)]; simp
      · exact List.mem_cons_of_mem _ (List.mem_cons_of_mem _ h)
    · rcases List.mem_cons.1 hx with rfl | hx
      · omega
      · rcases List.mem_cons.1 hx with rfl | hx
        · omega
        · exact h2 x (List.mem_cons_of_mem _ hx)
set_option maxHeartbeats 2000000 in
theorem max_spec (k : Option Bool) (a : Int) (l : List Int) (hk : Enc.Ok k (a :: l)) (hl : l.length ≤ 1000000) : pureCall E.P (L E) 24 [intE.o k (a :: l)] = some (.int .i64 (maxF a l)) := by
  have ll := fun h => Enc.o_len (O := intE) (h := h) hk
  have il := fun (i : Nat) (hi : i < (a :: l).length) => Enc.index_o (O := intE) (t := 3) (k := .i64) hk hi
  have i0 := il 0 (by simp)
  have x0 : intE.e (a :: l)[0] = .int .i64 a := rfl
  rw [x0] at i0
  generalize intE.o k (a :: l) = VL at *
  rw [pureCall_fn F24 rfl]
  have lg : ¬ ((a :: l).length : Int) < 1 := by simp only [List.length_cons]; omega
  have e0 : ((0 : Nat) : Int) = 0 := rfl
  rw [e0] at i0
  have lc : ((a :: l).length : Int) = (l.length : Int) + 1 := by simp only [List.length_cons]; omega
  rw [lc] at ll lg
  simp -implicitDefEqProofs [r24, p24, ll, lg, i0]
  rw [LL_for (γ := Int) l a (fun i z => [(3, .int .i64 z), (4, .int .i64 ((i : Int) + 1))]) (fun _ _ => []) (fun i rest z => (.exit 0, [(3, .int .i64 (maxF z rest)), (4, undef)], [])) (fun _ _ => True) (by omega) trivial]
  · simp -implicitDefEqProofs [k24_5]
  · simp -implicitDefEqProofs [k24_5]
  · rfl
  · intro nx i z hi _
    have e : maxF z [] = z := rfl
    rw [e]
    simp -implicitDefEqProofs [r24_5, k24_5, hi, ll, trim_le]
  · intro nx i v rest z hi hv hd hw _ ih
    have ih := ih (max z v) trivial
    have x1 := il (i + 1) (by simp only [List.length_cons]; omega)
    have e1 : (a :: l)[i + 1]'(by simp only [List.length_cons]; omega) = v := by rw [List.getElem_cons_succ, hv]
    rw [e1] at x1
    have e2 : (((i + 1 : Nat)) : Int) = (i : Int) + 1 := by omega
    rw [e2] at x1 ih
    have hi2 : ((i : Int) + 1 < (l.length : Int) + 1) := by omega
    have hw2 : IntKind.i64.wrap ((i : Int) + 1 + 1) = (i : Int) + 1 + 1 := wrap64 (by omega) (by omega)
    rw [maxF_cons]
    simp -implicitDefEqProofs [k24_5] at ih
    simp -implicitDefEqProofs [r24_5, k24_5, hi2, ll, x1, iE, max_int, hw2, trim_le]
    exact ih
theorem max_top (l : List Int) : maxF 0 (pre 0 l) = top l := by
  refine max_unique (maxF_is (pre 0 l) 0) ⟨?_, fun x hx => ?_⟩
  · rcases pre_top l 0 with h | h
    · rw [h]; exact List.mem_cons_self
    · rw [Int.zero_add] at h; exact List.mem_cons_of_mem _ h
  · rcases List.mem_cons.1 hx with rfl | hx
    · exact Cw.top_ge l
    · have := pre_le l 0 x hx
      omega
theorem peakO_spec (k : Option Bool) (l : List Int) (hk : Enc.Ok k l) (hl : Small l) : pureCall E.P (L E) 25 [intE.o k l] = some (.int .i64 (top l)) := by
  have h1 := prefixes_spec k l hk hl
  have h2 := max_spec (some false) 0 (pre 0 l) Enc.ok_some (by rw [Cw.pre_len]; have := hl.len; omega)
  rw [max_top] at h2
  have e : intE.o (some false) (0 :: pre 0 l) = lst false (intE.vals (0 :: pre 0 l)) := rfl
  rw [e] at h2
  have s1 : settled depth (intE.o k l) = true := Enc.o_set
  have r1 : ∀ h, reify E.P 8 h (lst false (intE.vals (0 :: pre 0 l))) = some (lst false (intE.vals (0 :: pre 0 l))) := fun h => Enc.o_reify (O := intE) (k := some false)
  generalize lst false (intE.vals (0 :: pre 0 l)) = W at *
  generalize intE.o k l = V at *
  rw [pureCall_fn F25 rfl]
  simp -implicitDefEqProofs [r25, p25, ret1 m32, h1, s1, r1, ret0 m24, h2]
end Go.Proofs.Ytjkemccfcabhgaa.Bm
namespace Go.Proofs.Ytjkemccfcabhgaa.Bm
open Go Go.RowKit
open Rg (Rect Pt)
open Cw (top)
def rtO (r : Rt) (V : Value) : AObj := .cells 58 [.int .i64 r.id, .int .i64 r.hol, .int .i64 r.lot, V, .int .i64 r.used, .int .i64 r.til, .bool r.over] 0
theorem PhsOk.clo {l : List Ph} (h : PhsOk l) : PhsOk (l.map cloP) :=
  ⟨fun p hp => by obtain ⟨q, hq, rfl⟩ := List.mem_map.1 hp; exact cloP_ok (h.ok q hq), fun p hp => by obtain ⟨q, hq, rfl⟩ := List.mem_map.1 hp; exact cloP_few (h.few q hq), by rw [List.length_map]; exact h.len⟩
theorem left_ok {r : Rt} (hr : RtFew r) : PhsOk ((leftR r).map cloP) := by
  unfold leftR
  split
  · exact (hr.ph.drop _).clo
  · exact ⟨fun p hp => absurd hp (by simp), fun p hp => absurd hp (by simp), by simp⟩
theorem loadsR_small (ts : List Tb) (c : Cc) {r : Rt} (hr : RtFew r) : Small (loadsR ts c r) := by
  have hl := left_ok hr
  have e : loadsR ts c r = ((leftR r).map cloP).map (phaseL ts c) := by
    unfold loadsR
    rw [List.map_map]; rfl
  rw [e]
  refine ⟨fun x hx => ?_, fun x hx => ?_, by rw [List.length_map]; exact hl.len⟩
  · obtain ⟨p, hp, rfl⟩ := List.mem_map.1 hx
    have := (phaseL_in ts c (hl.few p hp)).1; omega
  · obtain ⟨p, hp, rfl⟩ := List.mem_map.1 hx
    exact (phaseL_in ts c (hl.few p hp)).2
set_option maxHeartbeats 4000000 in
theorem loads_spec (p : Pn) (hp : PnOk p) (c : Cc) (hc : c.cs.length ≤ 1000000) (r : Rt) (hr : RtFew r) : pureCall E.P (L E) 22 [pnV p, ccV c, rtR.val r] = some (lst false (intE.vals (loadsR p.ts c r))) := by
  have hleft := left_spec r hr
  have hlo := left_ok hr
  have hlk := kL_ok r
  have hrr := fun h => rt_reify r h
  have hpr := fun h => pn_reify p h
  have hph := phase_spec p hp c hc
  have e : loadsR p.ts c r = ((leftR r).map cloP).map (phaseL p.ts c) := by
    unfold loadsR
    rw [List.map_map]; rfl
  have sr : settled depth (rtR.val r) = true := rtC_set r 6
  have sc : settled depth (lst c.x (spanR.vals c.cs)) = true := rfl
  rw [e]
  generalize (leftR r).map cloP = l at *
  have ll := fun h => Rec.o_len (R := phR) (h := h) hlk
  have il := fun (i : Nat) (hi : i < l.length) => Rec.o_index (R := phR) (s := 2) (t := 77) (kk := .i64) rfl hlk hi
  have b1 : ∀ d n, below (d + 1) n (tbR.o p.kt p.ts) = true := fun d n => Rec.o_bel
  have b2 : ∀ d n, below (d + 1) n (phR.o r.kp r.ph) = true := fun d n => Rec.o_bel
  have b3 : ∀ d n, below (d + 1) n (phR.o (kL r) l) = true := fun d n => Rec.o_bel
  have ob : ∀ d n o, below (d + 1) n (opV o) = true := fun d n o => op_bel
  have hlen := hlo.len
  rw [rt_val] at *
  rw [pureCall_fn F22 rfl]
  unfold ccV ccC pnV pnC at *
  generalize tbR.o p.kt p.ts = VT at *
  generalize phR.o r.kp r.ph = VP at *
  generalize phR.o (kL r) l = VL at *
  simp -implicitDefEqProofs [r22, p22, prep_new, newK_nil sI, ret1 m30, hleft, sr, ll]
  rw [LL_for (γ := List Int) l [] (fun i acc => [(7, Enc.sl 3 acc), (13, .int .i64 i)]) (fun _ acc => [pnO p VT, ccO c, rtO r VP, intE.row 3 acc]) (fun i rest acc => (.exit 0, [(7, Enc.sl 3 (acc ++ rest.map (phaseL p.ts c))), (13, undef)], [pnO p VT, ccO c, rtO r VP, intE.row 3 (acc ++ rest.map (phaseL p.ts c))])) (fun i acc => acc.length = i) (by omega) rfl]
  · have rr := Enc.reifyR_sl (O := intE) (P := E.P) (h := [pnO p VT, ccO c, rtO r VP, intE.row 3 (l.map (phaseL p.ts c))]) (b := 3) (t := 3) (l := l.map (phaseL p.ts c)) rfl sI aI
    generalize l.map (phaseL p.ts c) = W at *
    simp -implicitDefEqProofs [k22_3, rr]
  · simp -implicitDefEqProofs [k22_3, Enc.sl]
  · rfl
  · intro nx i acc hi _
    rw [List.map_nil, List.append_nil]
    unfold pnO ccO rtO
    simp -implicitDefEqProofs [r22_3, k22_3, hi, trim_le]
  · intro nx i v rest acc hi hv hd hw ha ih
    have hi2 : ((i : Int) < l.length) := by omega
    have x1 := il i hi
    have hm : v ∈ l := by rw [← hv]; exact List.getElem_mem hi
    have hs := hph v (hlo.ok v hm) (hlo.few v hm)
    have hvr := fun h => ph_reify v h
    rw [hv] at x1
    rw [ph_val] at x1 hs hvr
    have b4 : ∀ d n, below (d + 1) n (volR.o v.kv v.vs) = true := fun d n => Rec.o_bel
    have b5 : ∀ d n, below (d + 1) n (entR.o v.kg v.gs) = true := fun d n => Rec.o_bel
    have s4 : ∀ n, settled (n + 1) (volR.o v.kv v.vs) = true := fun n => Rec.o_set
    have s5 : ∀ n, settled (n + 1) (entR.o v.kg v.gs) = true := fun n => Rec.o_set
    have lt := fun h => lit_int h (phaseL p.ts c v)
    have ap := fun h (hob : h[3]? = some (intE.row 3 acc)) => Enc.app (O := intE) (el := elI) (h := h) (b := 3) (lo := 0) (l := acc) (m := [phaseL p.ts c v]) (u := lst true (intE.vals [phaseL p.ts c v])) rfl hob Enc.cells_tree (Nat.zero_le _) (by show (acc.length + 1) * 8 ≤ 2 ^ 47; omega)
    have ih := ih (acc ++ [phaseL p.ts c v]) (by rw [List.length_append, ha]; rfl)
    rw [List.map_cons, show acc ++ phaseL p.ts c v :: rest.map (phaseL p.ts c) = (acc ++ [phaseL p.ts c v]) ++ rest.map (phaseL p.ts c) by simp]
    generalize volR.o v.kv v.vs = V1 at *
    generalize entR.o v.kg v.gs = V2 at *
    generalize phaseL p.ts c v = z at *
    unfold pnO ccO rtO at *
    simp -implicitDefEqProofs [k22_3, -List.append_assoc] at ih
    simp -implicitDefEqProofs [r22_3, k22_3, hi2, x1, ret0 m18, hs, hpr, hvr, lt, ap, hw, trim_cut, ob, b1, b2, b3, Enc.row_bel, Enc.sl_bel, -List.append_assoc]
    exact ih
end Go.Proofs.Ytjkemccfcabhgaa.Bm
namespace Go.Proofs.Ytjkemccfcabhgaa.Bm
open Go Go.RowKit
open Rg (Rect Pt)
open Cw (top)
structure RsFew (k : Option Bool) (l : List Rt) : Prop where
  k : Rec.Ok k l
  r : ∀ r ∈ l, RtFew r
  len : l.length ≤ 1000
theorem pn_settled (p : Pn) : settled depth (pnV p) = true := pnC_set p 6
theorem rt_settled (r : Rt) : settled depth (rtR.val r) = true := rtC_set r 6
theorem pk_build (a : ByteArray) (b : Int) : buildT (.fs ⟨[.string ⟨⟨[]⟩⟩, .int .i64 0, .slice none 0 0]⟩ ⟨[(0, 1), (1, 1), (2, 1)]⟩) #[(0, .string a), (1, .int .i64 b)] = some (.agg ⟨[.string a, .int .i64 b, .slice none 0 0]⟩) := rfl
def pkO (a : ByteArray) (b : Int) (acc : List Int) : AObj := .cells 49 [.string a, .int .i64 b, Enc.sl 4 acc] 0
def pkZ : AObj := .cells 49 [.string ⟨⟨[]⟩⟩, .int .i64 0, .slice none 0 0] 0
set_option maxHeartbeats 4000000 in
theorem peak_spec (t : Tw) (ht : TwFew t) (c : Cc) (hc : c.cs.length ≤ 1000000) (k : Option Bool) (l : List Rt) (hl : RsFew k l) : pureCall E.P (L E) 9 [twV t, rtR.o k l, ccV c] = some (pkV ⟨c.nm, loadT32 t c, some false, l.map (topR t.p.ts c)⟩) := by
  have hload := loadT_spec t ht c hc
  have htr := fun h => tw_reify t h
  have hls := loads_spec t.p ht.p c hc
  have ll := fun h => Rec.o_len (R := rtR) (h := h) hl.k
  have il := fun (i : Nat) (hi : i < l.length) => Rec.o_index (R := rtR) (s := 7) (t := 58) (kk := .i64) rfl hl.k hi
  have sp := pn_settled t.p
  have sc : settled depth (lst c.x (spanR.vals c.cs)) = true := rfl
  have scc : settled depth (ccV c) = true := rfl
  have b1 : ∀ d n, below (d + 1) n (tbR.o t.p.kt t.p.ts) = true := fun d n => Rec.o_bel
  have b2 : ∀ d n, below (d + 1) n (rtR.o k l) = true := fun d n => Rec.o_bel
  have b3 : ∀ d n, below (d + 1) n (pdR.o t.kb t.bs) = true := fun d n => Rec.o_bel
  have b4 : ∀ d n, below (d + 1) n (entR.o t.ke t.es) = true := fun d n => Rec.o_bel
  have ob : ∀ d n o, below (d + 1) n (opV o) = true := fun d n o => op_bel
  have pb := pk_build c.nm (loadT32 t c)
  have hlen := hl.len
  have eR : ∀ W : List Int, pkV ⟨c.nm, loadT32 t c, some false, W⟩ = .agg ⟨[.string c.nm, .int .i64 (loadT32 t c), lst false (intE.vals W)]⟩ := fun W => rfl
  rw [eR]
  rw [pureCall_fn F9 rfl]
  unfold ccV ccC twV twC pnV pnC at *
  generalize tbR.o t.p.kt t.p.ts = VT at *
  generalize pdR.o t.kb t.bs = VB at *
  generalize entR.o t.ke t.es = VE at *
  generalize rtR.o k l = VL at *
  generalize loadT32 t c = n0 at *
  simp -implicitDefEqProofs [r9, p9, ret0 m10, hload, htr, pb, prep_newc, newcK, isNil, sI, ll]
  rw [LL_for (γ := List Int) l [] (fun i acc => [(18, .int .i64 i)]) (fun _ acc => [twO t VT VB VE, ccO c, pkZ, pkO c.nm n0 acc, intE.row 3 acc]) (fun i rest acc => (.exit 0, [(18, undef)], [twO t VT VB VE, ccO c, pkZ, pkO c.nm n0 (acc ++ rest.map (topR t.p.ts c)), intE.row 3 (acc ++ rest.map (topR t.p.ts c))])) (fun i acc => acc.length = i) (by omega) rfl]
  · have rr := fun n => Enc.reify_sl (O := intE) (P := E.P) (d := n) (h := [twO t VT VB VE, ccO c, .cells 49 [.string c.nm, .int .i64 n0, Enc.sl 4 (l.map (topR t.p.ts c))] 0, pkO c.nm n0 (l.map (topR t.p.ts c)), intE.row 3 (l.map (topR t.p.ts c))]) (b := 4) (t := 3) (l := l.map (topR t.p.ts c)) rfl sI aI
    have ss : ∀ n, settled (n + 1) (Enc.sl 4 (l.map (topR t.p.ts c))) = false := fun n => rfl
    generalize l.map (topR t.p.ts c) = W at *
    unfold pkO pkZ at *
    simp -implicitDefEqProofs [k9_3, rr, ss, reifyC_map]
    done
  · simp -implicitDefEqProofs [k9_3]
  · rfl
  · intro nx i acc hi _
    rw [List.map_nil, List.append_nil]
    unfold pkO pkZ twO ccO
    simp -implicitDefEqProofs [r9_3, k9_3, hi, trim_le]
  · intro nx i v rest acc hi hv hd hw ha ih
    have hi2 : ((i : Int) < l.length) := by omega
    have x1 := il i hi
    have hm : v ∈ l := by rw [← hv]; exact List.getElem_mem hi
    have hs := hls v (hl.r v hm)
    have htp := peakO_spec (some false) (loadsR t.p.ts c v) Enc.ok_some (loadsR_small t.p.ts c (hl.r v hm))
    have eI : intE.o (some false) (loadsR t.p.ts c v) = lst false (intE.vals (loadsR t.p.ts c v)) := rfl
    rw [eI] at htp
    have eT : top (loadsR t.p.ts c v) = topR t.p.ts c v := rfl
    rw [eT] at htp
    have hvs := rt_settled v
    rw [hv] at x1
    rw [rt_val] at x1 hs hvs
    have r6 : ∀ h, reify E.P 8 h (lst false (intE.vals (loadsR t.p.ts c v))) = some (lst false (intE.vals (loadsR t.p.ts c v))) := fun h => Enc.o_reify (O := intE) (k := some false)
    have co : ∀ W : List Int, cellsOf (Enc.sl 4 W) = some [Enc.sl 4 W] := fun _ => rfl
    have b6 : ∀ d n, below (d + 1) n (phR.o v.kp v.ph) = true := fun d n => Rec.o_bel
    have lt := fun h => lit_int h (topR t.p.ts c v)
    have ap := fun h (hob : h[4]? = some (intE.row 3 acc)) => Enc.app (O := intE) (el := elI) (h := h) (b := 4) (lo := 0) (l := acc) (m := [topR t.p.ts c v]) (u := lst true (intE.vals [topR t.p.ts c v])) rfl hob Enc.cells_tree (Nat.zero_le _) (by show (acc.length + 1) * 8 ≤ 2 ^ 47; omega)
    have ih := ih (acc ++ [topR t.p.ts c v]) (by rw [List.length_append, ha]; rfl)
    rw [List.map_cons, show acc ++ topR t.p.ts c v :: rest.map (topR t.p.ts c) = (acc ++ [topR t.p.ts c v]) ++ rest.map (topR t.p.ts c) by simp]
    generalize phR.o v.kp v.ph = V1 at *
    generalize lst false (intE.vals (loadsR t.p.ts c v)) = V2 at *
    generalize topR t.p.ts c v = z at *
    unfold pkO pkZ twO ccO at *
    simp -implicitDefEqProofs [k9_3, -List.append_assoc] at ih
    simp -implicitDefEqProofs [r9_3, k9_3, hi2, x1, ret1 m22, hs, sp, scc, hvs, ret0 m25, htp, r6, lt, ap, hw, trim_cut, ob, b1, b2, b3, b4, Enc.row_bel, Enc.sl_bel, co, -List.append_assoc]
    with_reducible exact ih
end Go.Proofs.Ytjkemccfcabhgaa.Bm
namespace Go.Proofs.Ytjkemccfcabhgaa.Bm
open Go Go.RowKit
open Rg (Rect Pt)
open Cw (top)
def subW (n : Int) (l : List Int) : Int := l.foldl (fun n t => IntKind.i64.wrap (n - t)) n
theorem subW_cons (n t : Int) (l : List Int) : subW n (t :: l) = subW (IntKind.i64.wrap (n - t)) l := rfl
def slackW (lim base : Int) (tops : List Int) : Int := subW (IntKind.i64.wrap (lim - base)) tops
def topsR (t : Tw) (c : Cc) (l : List Rt) : List Int := l.map (topR t.p.ts c)
def pkF (a : ByteArray) (b : Int) (V : Value) : AObj := .cells 49 [.string a, .int .i64 b, V] 0
set_option maxHeartbeats 4000000 in
theorem slack_spec (t : Tw) (ht : TwFew t) (c : Cc) (hc : c.cs.length ≤ 1000000) (k : Option Bool) (l : List Rt) (hl : RsFew k l) : pureCall E.P (L E) 11 [twV t, rtR.o k l, ccV c] = some (.int .i64 (slackW c.lim (loadT32 t c) (topsR t c l))) := by
  have hpk := peak_spec t ht c hc k l hl
  have eT : l.map (topR t.p.ts c) = topsR t c l := rfl
  have eR : ∀ W : List Int, pkV ⟨c.nm, loadT32 t c, some false, W⟩ = .agg ⟨[.string c.nm, .int .i64 (loadT32 t c), intE.o (some false) W]⟩ := fun W => rfl
  rw [eT, eR] at hpk
  have hlen : (topsR t c l).length ≤ 1000 := by unfold topsR; rw [List.length_map]; exact hl.len
  have ll := fun h => Enc.o_len (O := intE) (h := h) (k := some false) (l := topsR t c l) Enc.ok_some
  have il := fun (i : Nat) (hi : i < (topsR t c l).length) => Enc.index_o (O := intE) (t := 3) (k := .i64) (x := some false) (l := topsR t c l) Enc.ok_some hi
  have st : settled depth (twV t) = true := twC_set t 6
  have sc : settled depth (ccV c) = true := rfl
  have sr : settled depth (rtR.o k l) = true := Rec.o_set
  unfold slackW
  rw [pureCall_fn F11 rfl]
  unfold ccV ccC twV twC at *
  generalize tbR.o t.p.kt t.p.ts = VT at *
  generalize pdR.o t.kb t.bs = VB at *
  generalize entR.o t.ke t.es = VE at *
  generalize rtR.o k l = VL at *
  generalize loadT32 t c = n0 at *
  generalize topsR t c l = W at *
  generalize intE.o (some false) W = VW at *
  simp -implicitDefEqProofs [r11, p11, ret1 m9, hpk, st, sc, sr, ll]
  rw [LL_for (γ := Int) W (IntKind.i64.wrap (c.lim - n0)) (fun i z => [(8, .int .i64 z), (23, .int .i64 i)]) (fun _ _ => [twO t VT VB VE, ccO c, pkF c.nm n0 VW]) (fun i rest z => (.exit 0, [(8, .int .i64 (subW z rest)), (23, undef)], [twO t VT VB VE, ccO c, pkF c.nm n0 VW])) (fun _ _ => True) (by omega) trivial]
  · simp -implicitDefEqProofs [k11_4]
  · simp -implicitDefEqProofs [k11_4]
  · rfl
  · intro nx i z hi _
    have e : subW z [] = z := rfl
    rw [e]
    unfold pkF twO ccO
    simp -implicitDefEqProofs [r11_4, k11_4, hi, trim_le]
  · intro nx i v rest z hi hv hd hw _ ih
    have ih := ih (IntKind.i64.wrap (z - v)) trivial
    have hi2 : ((i : Int) < W.length) := by omega
    have x1 := il i hi
    rw [hv] at x1
    rw [subW_cons]
    unfold pkF twO ccO at *
    simp -implicitDefEqProofs [k11_4] at ih
    simp -implicitDefEqProofs [r11_4, k11_4, hi2, x1, iE, hw, trim_le]
    with_reducible exact ih
end Go.Proofs.Ytjkemccfcabhgaa.Bm
namespace Go.Proofs.Ytjkemccfcabhgaa.Bm
open Go Go.RowKit
open Rg (Rect Pt)
open Cw (top pre stp allS pre_len stp_len IsMax)
theorem ret3t {f : FuncId} (hm : E.mode f = 3) {C : Callee} {lo : Nat} {h : Heap} {args : List Value} : retCall E C lo false f args h = (C f args h lo).map fun r => (r.1, trim h.length [r.1] r.2) := by
  unfold retCall; rw [hm]; rfl
theorem trim_new {v : Value} {h e : Heap} (hv : below 8 h.length v = false) : trim h.length [v] (h ++ e) = h ++ e := by
  unfold trim depth
  split
  · rfl
  · rw [if_neg (by simp [hv])]
theorem app_e0 {el : El} {h : Heap} {lo : Nat} {st : Bool} {u : Value} {m : List Int} (hel : el.size = 1) (hu : sliceCells h 1 u = some (intE.vals m, m.length)) (hm : m ≠ []) (hb : m.length * el.bytes ≤ 2 ^ 47) :
    appendT (some el) h lo st (lst true []) u = some (Enc.sl h.length m, h ++ [intE.row el.e m]) := by
  have hm0 : m.length ≠ 0 := fun e => hm (List.eq_nil_of_length_eq_zero e)
  rw [append_lst, hel, hu]
  simp only [Option.bind_some]
  rw [if_neg hm0, if_pos ⟨rfl, by simpa using hb⟩]
  unfold Enc.sl Enc.row
  simp [Enc.vals_len]
theorem cloI_spec (x : Bool) (a : Int) (l : List Int) (h2 : (a :: l).length ≤ 1000000) (h : Heap) (lo : Nat) : retCall E (L E) lo false 23 [intE.o (some x) (a :: l)] h = some (Enc.sl h.length (a :: l), h ++ [intE.row 3 (a :: l)]) := by
  have eq : aBin E.P .eql 47 (lst x (intE.vals (a :: l))) (.slice none 0 0) = some (.bool false) := by cases x <;> kernel_rfl
  have ap := fun h lo st => app_e0 (el := elI) (h := h) (lo := lo) (st := st) (u := lst x (intE.vals (a :: l))) (m := a :: l) rfl Enc.cells_tree (by simp) (by show (a :: l).length * 8 ≤ 2 ^ 47; omega)
  have lit : ∀ h, buildSliceT (some elI) false h 0 #[] = some (lst true [], h) := fun h => build_none'.trans rfl
  have e1 : intE.o (some x) (a :: l) = lst x (intE.vals (a :: l)) := rfl
  have tn := trim_new (v := Enc.sl h.length (a :: l)) (h := h) (e := [intE.row 3 (a :: l)]) (decide_eq_false (Nat.lt_irrefl _))
  rw [e1]
  generalize lst x (intE.vals (a :: l)) = V at *
  rw [ret3t m23, L_fn F23 rfl]
  simp -implicitDefEqProofs [r23, p23, eq, lit, ap, -append_lst, tn]
end Go.Proofs.Ytjkemccfcabhgaa.Bm
