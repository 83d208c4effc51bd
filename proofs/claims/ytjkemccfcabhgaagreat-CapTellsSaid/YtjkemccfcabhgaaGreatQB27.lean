/-
 Chapter 32: the statement on the reference. Conditions: what the types say of the arguments.
-/
import Derived.Test.YtjkemccfcabhgaaGreatQB26
namespace Go.Proofs.YtjkemccfcabhgaaGreat.Bm
open Go Go.RowKit
open Rg (Rect Pt cell)
open Cw (top pre IsMax max_unique stp stp_len pre_le pre_top top_ge)
theorem bndJ_zero {n : Int} {i : Nat} (h : bndJ n i 0) : bndJ n (i + 1) 0 := by
 unfold bndJ at *
 constructor <;> omega
theorem bndJ_next {n : Int} {i j : Nat} (h : bndJ n i j) (hj : j ≤ 20) : bndJ n (i + 1) 0 := by
 unfold bndJ at *
 constructor <;> omega
theorem bndJ_base {n : Int} (h1 : -500000000000000 ≤ n) (h2 : n ≤ 1000000000000000) : bndJ n 0 0 := by
 unfold bndJ
 constructor <;> omega
def liE : Enc (List Int) where
 e l := intE.o (some false) l
 one _ := Enc.o_one
 set _ _ := Enc.o_set
 bel _ _ _ := Enc.o_bel
 fits _ _ := Enc.o_fits
theorem maxF_add (S : Int) : ∀ (l : List Int) (a : Int), maxF (a + S) (l.map (· + S)) = maxF a l + S
 | [], _ => rfl
 | b :: l, a => by
  rw [List.map_cons, maxF_cons, maxF_cons, ← maxF_add S l (max a b)]
  congr 1; omega
theorem maxF_pre (b : Int) (l : List Int) : maxF b (pre b l) = b + top l := by
 refine max_unique (maxF_is (pre b l) b) ⟨?_, fun x hx => ?_⟩
 ·rcases pre_top l b with h | h
  ·rw [h, Int.add_zero]; exact List.mem_cons_self
  ·exact List.mem_cons_of_mem _ h
 ·rcases List.mem_cons.1 hx with rfl | hx
  ·have := top_ge l; omega
  ·exact pre_le l b x hx
structure Lds (L : List (List Int)) : Prop where
 sm : ∀ l ∈ L, Small l ∧ l.length ≤ 20
 len : L.length ≤ 10
theorem sum_lo (l : List Int) (h : ∀ x ∈ l, 0 ≤ x) : 0 ≤ l.sum := by
 induction l with
 | nil => simp
 | cons a l ih => rw [List.sum_cons]; have := ih (fun x hx => h x (List.mem_cons_of_mem _ hx)); have := h a List.mem_cons_self; omega
theorem sum_hi (b : Int) : ∀ l : List Int, (∀ x ∈ l, x ≤ b) → l.sum ≤ (l.length : Int) * b
 | [], _ => by simp
 | a :: l, h => by
  have h1 := sum_hi b l fun x hx => h x (List.mem_cons_of_mem _ hx)
  have h2 := h a List.mem_cons_self
  rw [List.sum_cons, List.length_cons, Int.natCast_add, Int.add_mul]
  simp only [Int.natCast_one, Int.one_mul]
  omega
theorem top_small {l : List Int} (h : Small l) (h20 : l.length ≤ 20) : 0 ≤ top l ∧ top l ≤ 43980465111040000 := by
 refine ⟨top_ge l, ?_⟩
 have : ∀ l : List Int, (∀ x ∈ l, x ≤ 2199023255552000) → top l ≤ (l.length : Int) * 2199023255552000 := by
  intro l
  induction l with
  | nil => intro _; simp [Cw.top_nil]
  | cons a l ih =>
   intro h
   have h1 := ih fun x hx => h x (List.mem_cons_of_mem _ hx)
   have h2 := h a List.mem_cons_self
   rw [Cw.top_cons, List.length_cons]
   omega
 have := this l h.hi
 omega
set_option maxHeartbeats 2000000 in
theorem worst1_ref (L0 : List (List Int)) (hL : Lds L0) : ∀ (rest : List (List Int)) (i : Nat) (base : Int), L0.drop i = rest → i ≤ L0.length → bndJ base i 0 → pureCall E.P (L E) 26 [.int .i64 base, liE.o (some false) L0, .int .i64 (i : Int)] = some (.int .i64 (base + (rest.map top).sum)) := by
 intro rest
 induction rest with
 | nil =>
  intro i base hd hi hb
  have e : i = L0.length := by
   have := congrArg List.length hd
   rw [List.length_drop, List.length_nil] at this; omega
  subst e
  have ll := fun h => Enc.o_len (O := liE) (h := h) (k := some false) (l := L0) Enc.ok_some
  generalize liE.o (some false) L0 = VL at *
  rw [List.map_nil, List.sum_nil, Int.add_zero, pureCall_fn F26 rfl]
  simp -implicitDefEqProofs [r26, p26, ll]
  done
 | cons l rest ihr =>
  intro i base hd hi hb
  have hlt : i < L0.length := by
   apply Classical.byContradiction
   intro h
   rw [List.drop_eq_nil_of_le (by omega)] at hd; cases hd
  have e0 := List.drop_eq_getElem_cons hlt
  rw [hd] at e0
  obtain ⟨e1, e2⟩ := List.cons.inj e0
  have hm : l ∈ L0 := by rw [e1]; exact List.getElem_mem hlt
  obtain ⟨hs, h20⟩ := hL.sm l hm
  have hlen := hL.len
  have ih := fun (b : Int) (hb : bndJ b (i + 1) 0) => ihr (i + 1) b e2.symm (by omega) hb
  have hS : 0 ≤ (rest.map top).sum ∧ (rest.map top).sum ≤ 439804651110400000 := by
   have hr : ∀ x ∈ rest.map top, 0 ≤ x ∧ x ≤ 43980465111040000 := fun x hx => by
    obtain ⟨q, hq, rfl⟩ := List.mem_map.1 hx
    have hq2 : q ∈ L0 := List.mem_of_mem_drop (by rw [← e2]; exact hq)
    exact top_small (hL.sm q hq2).1 (hL.sm q hq2).2
   have h1 := sum_lo _ fun x hx => (hr x hx).1
   have h2 := sum_hi _ _ fun x hx => (hr x hx).2
   have h3 : (rest.map top).length ≤ 10 := by
    rw [List.length_map, e2, List.length_drop]; omega
   omega
  have ll := fun h => Enc.o_len (O := liE) (h := h) (k := some false) (l := L0) Enc.ok_some
  have il := Enc.index_o (O := liE) (t := 42) (k := .i64) (x := some false) (l := L0) Enc.ok_some hlt
  rw [← e1] at il
  have el : liE.e l = intE.o (some false) l := rfl
  rw [el] at il
  have li := fun h => Enc.o_len (O := intE) (h := h) (k := some false) (l := l) Enc.ok_some
  have ii := fun (j : Nat) (hj : j < l.length) => Enc.index_o (O := intE) (t := 3) (k := .i64) (x := some false) (l := l) Enc.ok_some hj
  have rf : ∀ h, reify E.P 8 h (liE.o (some false) L0) = some (liE.o (some false) L0) := fun h => Enc.o_reify
  have fl : ∀ sz, fitsTT ⟨some false, sz⟩ (intE.o (some false) l) = true := fun sz => Enc.o_fits
  have wi : IntKind.i64.wrap ((i : Int) + 1) = ((i + 1 : Nat) : Int) := (wrap64 (by omega) (by omega)).trans (by omega)
  have hne : ¬ ((i : Int) = L0.length) := by omega
  rw [List.map_cons, List.sum_cons, ← Int.add_assoc, ← maxF_pre, ← maxF_add]
  have ih0 := ih base (bndJ_zero hb)
  generalize (rest.map top).sum = S at *
  generalize liE.o (some false) L0 = VL at *
  generalize intE.o (some false) l = VI at *
  rw [pureCall_fn F26 rfl]
  simp -implicitDefEqProofs [r26, p26, ll, hne, ret0 m26, rf, wi, ih0, -Int.natCast_add]
  rw [LL_for (γ := Int × Int) l (base, base + S) (fun j a => [(0, .int .i64 a.1), (7, .int .i64 a.2), (8, .int .i64 j)]) (fun _ _ => []) (fun j rest a => (.exit 0, [(0, undef), (7, .int .i64 (maxF a.2 ((pre a.1 rest).map (· + S)))), (8, undef)], [])) (fun j a => bndJ a.1 i j) (by omega) hb]
  ·simp -implicitDefEqProofs [k26_5]
   done
  ·simp -implicitDefEqProofs [k26_5]
  ·rfl
  ·intro nx j a hj _
   have e1 : maxF a.2 ((pre a.1 []).map (· + S)) = a.2 := rfl
   rw [e1]
   simp -implicitDefEqProofs [r26_5, k26_5, hj, il, fl, li, trim_le]
   done
  ·intro nx j v rest2 a hj hv hd2 hw ha ih2
   obtain ⟨b, m⟩ := a
   have hj2 : ((j : Int) < l.length) := by omega
   have x1 := ii j hj
   rw [hv, iE] at x1
   have hmv : v ∈ l := by rw [← hv]; exact List.getElem_mem hj
   have hv1 := hs.lo v hmv
   have hv2 := hs.hi v hmv
   have hb1 := bndJ_step ha hv1 hv2
   have hb2 := bndJ_le ha (by omega) (by omega)
   have ew : IntKind.i64.wrap (b + v) = b + v := wrap64 (by omega) (by omega)
   have hc := ih (b + v) (bndJ_next hb1 (by omega))
   have ih2 := ih2 (b + v, max m (b + v + S)) hb1
   rw [pre_cons, List.map_cons, maxF_cons]
   dsimp only at ih2 ⊢
   rw [show ((j + 1 : Nat) : Int) = (j : Int) + 1 by omega] at ih2
   generalize maxF (max m (b + v + S)) ((pre (b + v) rest2).map (· + S)) = M at *
   simp -implicitDefEqProofs [k26_5, -Int.natCast_add] at ih2
   simp -implicitDefEqProofs [r26_5, k26_5, hj2, il, fl, li, x1, ew, ret0 m26, rf, wi, hc, max_int, hw, trim_le, -Int.natCast_add]
   with_reducible exact ih2
def wR (n : Nat) (acc : List (List Int)) : List (List Int) → Bool × Nat × List (List Int)
 | [] => (true, n, acc)
 | l :: ls => if l.length = 0 then wR n acc ls else if 4096 < n * (l.length + 1) then (false, n * (l.length + 1), acc) else wR (n * (l.length + 1)) (acc ++ [l]) ls
theorem wR_nil (n : Nat) (acc : List (List Int)) : wR n acc [] = (true, n, acc) := rfl
theorem wR_cons (n : Nat) (acc : List (List Int)) (l : List Int) (ls : List (List Int)) : wR n acc (l :: ls) = if l.length = 0 then wR n acc ls else if 4096 < n * (l.length + 1) then (false, n * (l.length + 1), acc) else wR (n * (l.length + 1)) (acc ++ [l]) ls := rfl
theorem wR_run : ∀ (ls acc : List (List Int)) (b : Bool) (S : List Int), S.length ≤ 4096 → (wR S.length acc ls).1 = (runS b S ls).2.2 ∧ ((wR S.length acc ls).1 = true → ((wR S.length acc ls).2.2.map top).sum = (acc.map top).sum + (ls.map top).sum ∧ (∀ l ∈ (wR S.length acc ls).2.2, l ∈ acc ∨ l ∈ ls) ∧ (wR S.length acc ls).2.2.length ≤ acc.length + ls.length)
 | [], acc, b, S, _ => ⟨rfl, fun _ => ⟨by simp [wR_nil], fun l hl => .inl hl, by simp [wR_nil]⟩⟩
 | l :: ls, acc, b, S, hS => by
  rw [wR_cons, runS_cons]
  by_cases h0 : l.length = 0
  ·obtain rfl := List.eq_nil_of_length_eq_zero h0
   rw [if_pos List.length_nil, if_neg (by simp; omega)]
   have e : stp S [] = S := by
    unfold stp
    have : (S.flatMap fun n => pre n []) = [] := by simp [pre]
    rw [this, List.append_nil]
   rw [e]
   obtain ⟨h1, h2⟩ := wR_run ls acc false S hS
   refine ⟨h1, fun h => ?_⟩
   obtain ⟨a1, a2, a3⟩ := h2 h
   refine ⟨by rw [a1, List.map_cons, List.sum_cons, Cw.top_nil, Int.zero_add], fun l hl => (a2 l hl).imp id (List.mem_cons_of_mem _), by rw [List.length_cons]; omega⟩
  ·rw [if_neg h0]
   by_cases h1 : 4096 < S.length * (l.length + 1)
   ·rw [if_pos h1, if_pos h1]
    exact ⟨rfl, fun h => by cases h⟩
   ·rw [if_neg h1, if_neg h1, ← stp_len]
    obtain ⟨h2, h3⟩ := wR_run ls (acc ++ [l]) false (stp S l) (by rw [stp_len]; omega)
    refine ⟨h2, fun h => ?_⟩
    obtain ⟨a1, a2, a3⟩ := h3 h
    refine ⟨by rw [a1, List.map_append, List.sum_append, List.map_cons, List.sum_cons]; simp; omega, fun q hq => ?_, by rw [List.length_append] at a3; rw [List.length_cons]; simp at a3; omega⟩
    rcases a2 q hq with h | h
    ·rcases List.mem_append.1 h with h | h
     ·exact .inl h
     ·exact .inr (by rw [List.mem_singleton.1 h]; exact List.mem_cons_self)
    ·exact .inr (List.mem_cons_of_mem _ h)
abbrev elLi : El := ⟨42, 1, 24, .slice none 0 0, ⟨some false, some 1⟩⟩
theorem sLi : szOf E.P 42 = some 1 := by kernel_rfl
theorem aLi : aggT E.P 42 = some false := by kernel_rfl
theorem lds_of {t : Tw} {c : Cc} {l : List Rt} (hr : ∀ r ∈ l, RtFew r) (hp : ∀ r ∈ l, r.ph.length ≤ 20) : ∀ x ∈ l.map (loadsR t.p.ts c), Small x ∧ x.length ≤ 20 := by
 intro x hx
 obtain ⟨r, h1, rfl⟩ := List.mem_map.1 hx
 refine ⟨loadsR_small t.p.ts c (hr r h1), ?_⟩
 unfold loadsR leftR
 have := hp r h1
 rw [List.length_map]
 split
 ·rw [List.length_drop]; omega
 ·simp
set_option maxHeartbeats 4000000 in
theorem worst_ref (t : Tw) (ht : TwFew t) (c : Cc) (hc : c.cs.length ≤ 1000000) (k : Option Bool) (l : List Rt) (hl : RsTiny k l) (hb : -500000000000000 ≤ loadT32 t c ∧ loadT32 t c ≤ 1000000000000000) : pureCall E.P (L E) 7 [twV t, rtR.o k l, ccV c] =
  some (if (runS true [loadT32 t c] (l.map (loadsR t.p.ts c))).2.2 = true then .tuple ⟨[.int .i64 (loadT32 t c + (topsR t c l).sum), .int .i64 0]⟩ else .tuple ⟨[.int .i64 0, .int .i64 6]⟩) := by
 have hload := loadT_ref t ht c hc
 have htr := fun h => tw_reify t h
 have hls := loads_ref t.p ht.p c hc
 have hlk := hl.few.k
 have ll := fun h => Rec.o_len (R := rtR) (h := h) hlk
 have il := fun (i : Nat) (hi : i < l.length) => Rec.o_index (R := rtR) (s := 7) (t := 60) (kk := .i64) rfl hlk hi
 have sp := pn_settled t.p
 have sc : settled depth (lst c.x (spanR.vals c.cs)) = true := rfl
 have scc : settled depth (ccV c) = true := rfl
 have ccs : ∀ h, reify E.P 8 h (ccV c) = some (ccV c) := fun h => rfl
 have hlen := hl.len
 have hsm := lds_of (t := t) (c := c) hl.few.r hl.ph
 have hrun := wR_run (l.map (loadsR t.p.ts c)) [] true [loadT32 t c] (by simp)
 have etop : ((l.map (loadsR t.p.ts c)).map top).sum = (topsR t c l).sum := by unfold topsR; rw [List.map_map]; rfl
 rw [etop] at hrun
 rw [← hrun.1]
 have hrun2 := hrun.2
 clear hrun
 rw [show [loadT32 t c].length = 1 from rfl] at hrun2 ⊢
 rw [pureCall_fn F7 rfl]
 unfold ccV ccC twV twC pnV pnC at *
 generalize tbR.o t.p.kt t.p.ts = VT at *
 generalize pdR.o t.kb t.bs = VB at *
 generalize entR.o t.ke t.es = VE at *
 generalize rtR.o k l = VL at *
 generalize loadT32 t c = n0 at *
 simp -implicitDefEqProofs [r7, p7, prep_new, newK_nil sLi]
 rw [LL_for (γ := Nat × List (List Int)) l (1, []) (fun i a => [(8, Enc.sl 2 a.2), (9, .int .i64 a.1), (10, .int .i64 i)]) (fun _ a => [twO t VT VB VE, ccO c, liE.row 42 a.2]) (fun i rest a => match wR a.1 a.2 (rest.map (loadsR t.p.ts c)) with | (true, n, A) => (.exit 0, [(8, Enc.sl 2 A), (9, undef), (10, undef)], [twO t VT VB VE, ccO c, liE.row 42 A]) | (false, n, A) => (.ret, [(6, .int .i64 0), (7, .int .i64 6), (8, Enc.sl 2 A), (9, undef), (10, undef)], [twO t VT VB VE, ccO c, liE.row 42 A])) (fun i a => a.1 ≤ 4096 ∧ a.2.length ≤ i) (by omega) (by simp)]
 ·dsimp only
  generalize wR 1 [] (l.map (loadsR t.p.ts c)) = R at *
  obtain ⟨ok, n, A⟩ := R
  cases ok
  ·simp -implicitDefEqProofs [k7_4]
   done
  ·obtain ⟨h1, h2, h3⟩ := hrun2 rfl
   simp only [List.map_nil, List.sum_nil, Int.zero_add, List.length_nil, Nat.zero_add, List.length_map] at h1 h3
   have hA : Lds A := ⟨fun q hq => by
    rcases h2 q hq with h | h
    ·cases h
    ·exact hsm q h, by omega⟩
   have hw := worst1_ref A hA A 0 n0 rfl (Nat.zero_le _) (bndJ_base hb.1 hb.2)
   rw [h1] at hw
   have fz := Enc.frz_sl (O := liE) (P := E.P) (h := [twO t VT VB VE, ccO c, liE.row 42 A]) (b := 2) (lo := 0) (t := 42) (l := A) rfl sLi aLi (Nat.zero_le _)
   have rA : ∀ h, reify E.P 8 h (liE.o (some false) A) = some (liE.o (some false) A) := fun h => Enc.o_reify
   have eA : liE.o (some false) A = lst false (liE.vals A) := rfl
   rw [eA] at hw rA
   rw [show ((0 : Nat) : Int) = 0 from rfl] at hw
   generalize lst false (liE.vals A) = VA at *
   by_cases hz : A.length = 0
   ·rw [if_pos hz] at fz
    unfold twO ccO at *
    simp -implicitDefEqProofs [k7_4, prep_frz, fz, ret0 m11, hload, htr, ccs, ret0 m26, rA, hw]
    done
   ·rw [if_neg hz] at fz
    unfold twO ccO at *
    simp -implicitDefEqProofs [k7_4, prep_frz, fz, ret0 m11, hload, htr, ccs, ret0 m26, rA, hw]
    done
 ·simp -implicitDefEqProofs [k7_4, Enc.sl]
  done
 ·rfl
 ·intro nx i a hi _
  show _ = fin _ (.exit 0, [(8, Enc.sl 2 a.2), (9, undef), (10, undef)], [twO t VT VB VE, ccO c, liE.row 42 a.2])
  unfold twO ccO
  simp -implicitDefEqProofs [r7_4, k7_4, hi, ll, trim_le]
  done
 ·intro nx i v rest a hi hv hd hw ha ih
  obtain ⟨n, acc⟩ := a
  simp only at ha
  have hi2 : ((i : Int) < l.length) := by omega
  have x1 := il i hi
  have hm : v ∈ l := by rw [← hv]; exact List.getElem_mem hi
  have hs := hls v (hl.few.r v hm)
  have hvs := rt_settled v
  have hq := hsm (loadsR t.p.ts c v) (List.mem_map.2 ⟨v, hm, rfl⟩)
  rw [hv] at x1
  rw [rt_val] at x1 hs hvs
  have li := fun h => Enc.o_len (O := intE) (h := h) (k := some false) (l := loadsR t.p.ts c v) Enc.ok_some
  have eI : lst false (intE.vals (loadsR t.p.ts c v)) = intE.o (some false) (loadsR t.p.ts c v) := rfl
  have lt := fun h => Enc.lit (O := liE) (h := h) (el := elLi) (loadsR t.p.ts c v) rfl rfl rfl
  have eL : liE.e (loadsR t.p.ts c v) = intE.o (some false) (loadsR t.p.ts c v) := rfl
  rw [eL] at lt
  have ap := fun h (hob : h[2]? = some (liE.row 42 acc)) => Enc.app (O := liE) (el := elLi) (h := h) (b := 2) (lo := 0) (l := acc) (m := [loadsR t.p.ts c v]) (u := lst true (liE.vals [loadsR t.p.ts c v])) rfl hob Enc.cells_tree (Nat.zero_le _) (by show (acc.length + 1) * 24 ≤ 2 ^ 47; omega)
  rw [List.map_cons, wR_cons]
  rw [eI] at hs
  have h20 := hq.2
  have hprod : n * ((loadsR t.p.ts c v).length + 1) ≤ 4096 * 21 := Nat.mul_le_mul ha.1 (by omega)
  have w1 : IntKind.i64.wrap (((loadsR t.p.ts c v).length : Int) + 1) = (((loadsR t.p.ts c v).length + 1 : Nat) : Int) := (wrap64 (by omega) (by omega)).trans (by omega)
  have w2 : IntKind.i64.wrap ((n : Int) * (((loadsR t.p.ts c v).length + 1 : Nat) : Int)) = ((n * ((loadsR t.p.ts c v).length + 1) : Nat) : Int) := by
   rw [← Int.natCast_mul]
   exact wrap64 (by omega) (by omega)
  have hbig : ¬ ((4096 : Int) < (((loadsR t.p.ts c v).length : Nat) : Int)) := by omega
  have b1 : ∀ d n, below (d + 1) n (intE.o (some false) (loadsR t.p.ts c v)) = true := fun d n => Enc.o_bel
  generalize loadsR t.p.ts c v = lv at *
  generalize phR.o v.kp v.ph = V1 at *
  generalize n * (lv.length + 1) = n2 at *
  generalize (lv.length + 1 : Nat) = n1 at *
  generalize intE.o (some false) lv = VI at *
  unfold twO ccO at *
  by_cases h0 : lv.length = 0
  ·have ih := ih (n, acc) ⟨ha.1, by show acc.length ≤ i + 1; omega⟩
   have h0' : ((lv.length : Nat) : Int) = 0 := by omega
   rw [if_pos h0]
   dsimp only at ih ⊢
   generalize wR n acc (rest.map (loadsR t.p.ts c)) = R at *
   simp -implicitDefEqProofs [k7_4] at ih
   simp -implicitDefEqProofs [r7_4, k7_4, hi2, ll, x1, ret1 m25, hs, sp, scc, hvs, li, h0, hw, trim_le]
   with_reducible exact ih
  ·have h0' : ¬ ((lv.length : Nat) : Int) = 0 := by omega
   rw [if_neg h0]
   by_cases h1 : 4096 < n2
   ·have h1' : (4096 : Int) < (n2 : Int) := by omega
    rw [if_pos h1]
    simp -implicitDefEqProofs [r7_4, k7_4, hi2, ll, x1, ret1 m25, hs, sp, scc, hvs, li, h0, hbig, w1, w2, h1', trim_le, -Int.natCast_add, -Int.natCast_mul]
    done
   ·have h1' : ¬ (4096 : Int) < (n2 : Int) := by omega
    rw [if_neg h1]
    have ih := ih (n2, acc ++ [lv]) ⟨by show n2 ≤ 4096; omega, by show (acc ++ [lv]).length ≤ i + 1; rw [List.length_append]; simp; omega⟩
    dsimp only at ih ⊢
    generalize wR n2 (acc ++ [lv]) (rest.map (loadsR t.p.ts c)) = R at *
    simp -implicitDefEqProofs [k7_4, -List.append_assoc] at ih
    simp -implicitDefEqProofs [r7_4, k7_4, hi2, ll, x1, ret1 m25, hs, sp, scc, hvs, li, h0, hbig, w1, w2, h1', lt, ap, hw, trim_le, -List.append_assoc, -Int.natCast_add, -Int.natCast_mul]
    with_reducible exact ih
end Go.Proofs.YtjkemccfcabhgaaGreat.Bm
namespace Go.Proofs.YtjkemccfcabhgaaGreat.Bm
open Go Go.RowKit
open Rg (Rect Pt)
open Cw (limited top)
theorem sp_len (c : Cc) : (spanR.vals c.cs).length = c.cs.length := by unfold Rec.vals; rw [List.length_map]
def pkK (q : Pk) (V : Value) : AObj := .cells 44 [.string q.nm, .int .i64 q.base, V] 0
set_option maxHeartbeats 8000000 in
theorem tells_law (t : Tw) (l : List Rt) (c : Cc) (q : Pk) (z : Int) (ha : Args t (some false) l) (hq : Enc.Ok q.kt q.tops) (hqn : q.tops.length ≤ 9223372036854775807) : ∃ h', L E 3 [twV t, lst false (rtR.vals l), ccV c, pkV q, .int .i64 z] [] 0 = some (.bool true, h') := by
 have sm := small32_spec
 have fw := few_spec32 t (some false) l ha
 have eR : lst false (rtR.vals l) = rtR.o (some false) l := rfl
 have eK : pkV q = .agg ⟨[.string q.nm, .int .i64 q.base, intE.o q.kt q.tops]⟩ := rfl
 have htr := fun h => tw_reify t h
 have st : settled depth (twV t) = true := twC_set t 6
 have sr : settled depth (rtR.o (some false) l) = true := Rec.o_set
 have rr : ∀ h, reify E.P 8 h (rtR.o (some false) l) = some (rtR.o (some false) l) := fun h => Rec.o_reify
 have ll := fun h => Rec.o_len (R := rtR) (h := h) (k := some false) (l := l) Rec.ok_some
 have il := fun (i : Nat) (hi : i < l.length) => Rec.o_index (R := rtR) (s := 7) (t := 60) (kk := .i64) (k := some false) (l := l) rfl Rec.ok_some hi
 have lc := sp_len c
 have lk := fun h => Enc.o_len (O := intE) (h := h) hq
 have scc : settled depth (ccV c) = true := rfl
 have sc : settled depth (lst c.x (spanR.vals c.cs)) = true := rfl
 have ccs : ∀ h, reify E.P 8 h (ccV c) = some (ccV c) := fun h => rfl
 have rK : ∀ n h, reify E.P (n + 1) h (intE.o q.kt q.tops) = some (intE.o q.kt q.tops) := fun n h => Enc.o_reify
 have sK : ∀ n, settled (n + 1) (intE.o q.kt q.tops) = true := fun n => Enc.o_set
 rw [eR, eK, L_fn F3 rfl]
 cases hF : fewB t l
 ·rw [hF] at fw
  unfold twV twC ccV ccC at *
  generalize tbR.o t.p.kt t.p.ts = VT at *
  generalize pdR.o t.kb t.bs = VB at *
  generalize entR.o t.ke t.es = VE at *
  generalize rtR.o (some false) l = VL at *
  simp -implicitDefEqProofs [r3, p3, ret0 m4, sm, ret0 m5, htr, rr, fw]
  done
 rw [hF] at fw
 obtain ⟨k, k6, kb, ke, _⟩ := few_get ha hF
 by_cases h1 : c.cs.length ≤ 64
 case neg =>
  have h1' : (64 : Int) < (c.cs.length : Int) := by omega
  unfold twV twC ccV ccC at *
  generalize tbR.o t.p.kt t.p.ts = VT at *
  generalize pdR.o t.kb t.bs = VB at *
  generalize entR.o t.ke t.es = VE at *
  generalize rtR.o (some false) l = VL at *
  simp -implicitDefEqProofs [r3, p3, ret0 m4, sm, ret0 m5, htr, rr, fw, lc, h1']
  done
 have h1' : ¬ (64 : Int) < (c.cs.length : Int) := by omega
 by_cases h2 : q.tops.length ≤ 10
 case neg =>
  have h2' : (10 : Int) < (q.tops.length : Int) := by omega
  unfold twV twC ccV ccC at *
  generalize tbR.o t.p.kt t.p.ts = VT at *
  generalize pdR.o t.kb t.bs = VB at *
  generalize entR.o t.ke t.es = VE at *
  generalize rtR.o (some false) l = VL at *
  simp -implicitDefEqProofs [r3, p3, ret0 m4, sm, ret0 m5, htr, rr, fw, lc, lk, h1', h2']
  done
 have h2' : ¬ (10 : Int) < (q.tops.length : Int) := by omega
 have hcl : c.cs.length ≤ 1000000 := by omega
 have hworst := worst_spec t k.tw c hcl (some false) l k.ti
 have hworst2 := worst_ref t k.tw c hcl (some false) l k.ti (k.load c)
 have hwm := fun (b : Bool) (S : List Int) (e : runS true [loadT32 t c] (l.map (loadsR t.p.ts c)) = (b, S, true)) => worst_is e
 have etop : ((l.map (loadsR t.p.ts c)).map top).sum = (topsR t c l).sum := by unfold topsR; rw [List.map_map]; rfl
 rw [etop] at hwm
 have hpeak := peak_spec t k.tw c hcl (some false) l k.rs
 have hpeak2 := peak_ref t k.tw c hcl (some false) l k.rs
 have eR2 : ∀ (n : Int) (W : List Int), pkV ⟨c.nm, n, some false, W⟩ = .agg ⟨[.string c.nm, .int .i64 n, intE.o (some false) W]⟩ := fun n W => rfl
 have eT : l.map (topR t.p.ts c) = topsR t c l := rfl
 rw [eR2, eT] at hpeak hpeak2
 have hload := loadT_spec t k.tw c hcl
 have hload2 := loadT_ref t k.tw c hcl
 have hlenT : (topsR t c l).length ≤ 10 := by unfold topsR; rw [List.length_map]; exact k.len
 have hsame := same_ref ⟨c.nm, loadT32 t c, some false, topsR t c l⟩ ⟨c.nm, loadT32 t c, some false, topsR t c l⟩ Enc.ok_some Enc.ok_some (by show (topsR t c l).length ≤ _; omega)
 rw [decide_eq_true (by exact ⟨rfl, rfl, rfl⟩), eR2] at hsame
 have hslack := slack_spec t k.tw c hcl (some false) l k.rs
 have hslack2 := slack_ref t k.tw c hcl (some false) l k.rs
 have hchk := check_spec32 t k.tw c hcl (some false) l k.rs q hq hqn
 have hchk2 := check_ref t k.tw c hcl (some false) l k.rs q hq hqn
 have hchkq := check_spec32 t k.tw c hcl (some false) l k.rs ⟨c.nm, loadT32 t c, some false, topsR t c l⟩ Enc.ok_some (by show (topsR t c l).length ≤ _; omega)
 have e0 : chkV t c l ⟨c.nm, loadT32 t c, some false, topsR t c l⟩ = 0 := by unfold chkV; rw [if_pos ⟨rfl, rfl, rfl⟩]
 rw [e0, eR2] at hchkq
 rw [eK] at hchk hchk2
 have hlim := limited_spec32 z
 have hlim2 := limited_ref z
 have rW : ∀ n h, reify E.P (n + 1) h (intE.o (some false) (topsR t c l)) = some (intE.o (some false) (topsR t c l)) := fun n h => Enc.o_reify
 have sW : ∀ n, settled (n + 1) (intE.o (some false) (topsR t c l)) = true := fun n => Enc.o_set
 have hph := phase_spec t.p k.tw.p c hcl
 have hph2 := phase_ref t.p k.tw.p c hcl
 have rpn := fun h => pn_reify t.p h
 obtain ⟨b, S, ok, hR⟩ : ∃ b S ok, runS true [loadT32 t c] (l.map (loadsR t.p.ts c)) = (b, S, ok) := ⟨_, _, _, rfl⟩
 rw [hR] at hworst hworst2
 have hrt := k.rt
 unfold twV twC ccV ccC pnV pnC at *
 generalize tbR.o t.p.kt t.p.ts = VT at *
 generalize pdR.o t.kb t.bs = VB at *
 generalize entR.o t.ke t.es = VE at *
 generalize rtR.o (some false) l = VL at *
 generalize intE.o (some false) (topsR t c l) = VW at *
 generalize hVK : intE.o q.kt q.tops = VK at *
 generalize chkV t c l q = ck at *
 generalize slackW c.lim (loadT32 t c) (topsR t c l) = sk at *
 generalize (topsR t c l).sum = s0 at *
 generalize hn0 : loadT32 t c = n0 at *
 obtain ⟨W, hW1, hW2⟩ : ∃ W : Int × Int, pureCall E.P (L E) 6 [.agg ⟨[opV t.p.d, VT, opV t.p.z, opV t.p.r, opV t.p.c, opV t.p.v, opV t.p.s, .int .i64 t.p.h, opV t.land, opV t.eas, opV t.win, VB, VE]⟩, VL, .agg ⟨[.string c.nm, .int .i64 c.load, .int .i64 c.lim, lst c.x (spanR.vals c.cs)]⟩] = some (.tuple ⟨[.int .i64 W.1, .int .i64 W.2]⟩) ∧ pureCall E.P (L E) 7 [.agg ⟨[opV t.p.d, VT, opV t.p.z, opV t.p.r, opV t.p.c, opV t.p.v, opV t.p.s, .int .i64 t.p.h, opV t.land, opV t.eas, opV t.win, VB, VE]⟩, VL, .agg ⟨[.string c.nm, .int .i64 c.load, .int .i64 c.lim, lst c.x (spanR.vals c.cs)]⟩] = some (.tuple ⟨[.int .i64 W.1, .int .i64 W.2]⟩) := by
  cases ok
  ·rw [if_neg (by simp)] at hworst2
   exact ⟨(0, 6), hworst, hworst2⟩
  ·rw [if_pos rfl] at hworst2
   simp only at hworst
   rw [hwm b S hR] at hworst
   exact ⟨(n0 + s0, 0), hworst, hworst2⟩
 obtain ⟨w, e⟩ := W
 simp only at hW1 hW2
 clear hworst hworst2
 have hworst := hW1
 have hworst2 := hW2
 simp -implicitDefEqProofs [r3, p3, ret0 m4, sm, ret0 m5, htr, rr, fw, lc, lk, h1', h2', ret0 m6, hworst, ret0 m7, hworst2, ccs, scc, st, sr, ret1 m8, hpeak, ret1 m9, hpeak2, ret0 m10, hload, ret0 m11, hload2, ret0 m12, hsame, ret0 m13, hslack, ret0 m14, hslack2, ret0 m15, hchk, hchkq, ret0 m16, hchk2, ret0 m17, hlim, ret0 m18, hlim2, sK, sW, reifyC_set]
 rw [LL_for (γ := Unit) l () (fun i _ => [(20, .int .i64 i)]) (fun _ _ => [twO t VT VB VE, ccO c, pkK q VK, pkF c.nm n0 VW, pkF c.nm n0 VW]) (fun i rest _ => (.exit 0, [(20, undef)], [twO t VT VB VE, ccO c, pkK q VK, pkF c.nm n0 VW, pkF c.nm n0 VW])) (fun _ _ => True) (by omega) trivial]
 ·unfold twO ccO pkK pkF
  simp -implicitDefEqProofs [k3_11]
  done
 ·simp -implicitDefEqProofs [k3_11]
 ·rfl
 ·intro nx i a hi _
  unfold twO ccO pkK pkF
  simp -implicitDefEqProofs [r3_11, k3_11, hi, ll, trim_le]
  done
 ·intro nx i v rest a hi hv hd hw _ ih
  have ih := ih () trivial
  have hi2 : ((i : Int) < l.length) := by omega
  have x1 := il i hi
  rw [hv, rt_val] at x1
  have hm : v ∈ l := by rw [← hv]; exact List.getElem_mem hi
  have kr := hrt v hm
  have lp := fun h => Rec.o_len (R := phR) (h := h) kr.few.kp
  have ip := fun (j : Nat) (hj : j < v.ph.length) => Rec.o_index (R := phR) (s := 2) (t := 64) (kk := .i64) rfl kr.few.kp hj
  have f1 : ∀ sz, fitsTT ⟨some false, sz⟩ (phR.o v.kp v.ph) = true := fun _ => Rec.o_fits
  have hpl := kr.len
  generalize phR.o v.kp v.ph = V1 at *
  unfold twO ccO pkK pkF at *
  simp -implicitDefEqProofs [k3_11] at ih
  simp -implicitDefEqProofs [r3_11, k3_11, hi2, ll, x1, f1]
  rw [LL_for (γ := Unit) v.ph () (fun j _ => [(22, .int .i64 j)]) (fun _ _ => [twO t VT VB VE, ccO c, pkK q VK, pkF c.nm n0 VW, pkF c.nm n0 VW]) (fun j rest _ => (.exit 2, [(22, undef)], [twO t VT VB VE, ccO c, pkK q VK, pkF c.nm n0 VW, pkF c.nm n0 VW])) (fun _ _ => True) (by omega) trivial]
  ·unfold twO ccO pkK pkF
   simp -implicitDefEqProofs [k3_15, hw, trim_le]
   with_reducible exact ih
  ·simp -implicitDefEqProofs [k3_15]
  ·rfl
  ·intro nx j a hj _
   unfold twO ccO pkK pkF
   simp -implicitDefEqProofs [r3_15, k3_15, hj, lp, trim_le]
   done
  ·intro nx j w2 rest2 a hj hwj hd2 hw2 _ ih2
   have ih2 := ih2 () trivial
   have hj2 : ((j : Int) < v.ph.length) := by omega
   have y1 := ip j hj
   have hwm2 : w2 ∈ v.ph := by rw [← hwj]; exact List.getElem_mem hj
   rw [hwj, ph_val] at y1
   have p1 := hph w2 (kr.few.ph.ok w2 hwm2) (kr.few.ph.few w2 hwm2)
   have p2 := hph2 w2 (kr.few.ph.ok w2 hwm2) (kr.few.ph.few w2 hwm2)
   have rph := fun h => ph_reify w2 h
   rw [ph_val] at p1 p2 rph
   generalize volR.o w2.kv w2.vs = V5 at *
   generalize entR.o w2.kg w2.gs = V6 at *
   unfold twO ccO pkK pkF at *
   simp -implicitDefEqProofs [k3_15] at ih2
   simp -implicitDefEqProofs [r3_15, k3_15, hj2, lp, y1, ret0 m19, p1, ret0 m20, p2, rph, rpn, ccs, hw2, trim_le]
   with_reducible exact ih2
end Go.Proofs.YtjkemccfcabhgaaGreat.Bm
