/-
 Chapter 26: what the checker's problem says, and how its choices follow the search's. Conditions: none.
-/
import Derived.Test.YtcnafncmfiogcaaQJ17
import Derived.Test.YtcnafncmfiogcaaQJ23
namespace Go.Proofs.Ytcnafncmfiogcaa.Cp
def TrL (f : Nd → List Br → Prop) : List Nd → List Br → Prop
 | [], L => L = []
 | t :: ts, L => ∃ l L', L = l ++ L' ∧ f t l ∧ TrL f ts L'
def Leaf (P : Pr) (B : Int) (s : Nd) (l : List Br) : Prop := l = [⟨0, reach P s⟩] ∧ (conts P s = [] → s.v ≤ B) ∧ (conts P s ≠ [] → reach P s ≤ B)
def Tr (P : Pr) (B : Int) : Nat → Nd → List Br → Prop
 | 0, s, l => Leaf P B s l
 | n + 1, s, l => Leaf P B s l ∨ ∃ L, l = ⟨(conts P s).length, reach P s⟩ :: L ∧ conts P s ≠ [] ∧ s.v ≤ B ∧ TrL (Tr P B n) (conts P s) L
theorem conts_nil {P : Pr} {s : Nd} (h : s.rem.length = 0) : conts P s = [] := by
 have : s.rem = [] := List.eq_nil_of_length_eq_zero h
 apply List.filterMap_eq_nil_iff.2
 intro u _
 unfold next; rw [this]
def Prv (P : Pr) (n : Nat) (s : Nd) (l : List Br) (m : Int) : Prop := ∃ o, (∀ r, prv P n s (l ++ r) = some (m, o, r)) ∧ le2 l o
structure Place (P : Pr) (A : List Int) (B : Int) (T : List Br) (n : Nat) (t : Nd) (pre l post : List Br) : Prop where
 e : T = pre ++ (l ++ post)
 tr : Tr P B n t l
 hn : t.rem.length ≤ n
 g : Good P t
 run : run P (root P A) t.c = some t
 put : ∀ l' m, Prv P n t l' m → ∃ M, Prv P A.length (root P A) (pre ++ (l' ++ post)) M ∧ m ≤ M ∧ (m ≤ B → M ≤ B)
def grF (P : Pr) : Nat → Nd → Int
 | 0, s => s.v
 | n + 1, s => (conts P s).foldl (fun m t => max m (grF P n t)) s.v
end Go.Proofs.Ytcnafncmfiogcaa.Cp
namespace Go.Proofs.Ytcnafncmfiogcaa.Bm
open Go Go.RowKit
open Cp (Q nameB limS limQ mayQ prQ validQ badP hasP bitB)
structure Bp where
 A : List Int
 may : List Bool
 lim : List Int
 nev : List Bool
 most : Int
def bolE : Enc Bool := ⟨.bool, fun _ => rfl, fun _ _ => rfl, fun _ _ _ => rfl, fun _ _ => rfl⟩
def bpC (av : Value) (b : Bp) : List Value := av :: (bolE.vals b.may ++ (intE.vals b.lim ++ (bolE.vals b.nev ++ [.int .i64 b.most])))
def bpV (b : Bp) : Value := cptr (.agg ⟨bpC (lst false (intE.vals b.A)) b⟩)
structure BpL (b : Bp) : Prop where
 may : b.may.length = 6
 lim : b.lim.length = 6
 nev : b.nev.length = 36
 most : -9223372036854775808 ≤ b.most ∧ b.most ≤ 9223372036854775807
theorem bp_len {av : Value} {b : Bp} (h : BpL b) : (bpC av b).length = 50 := by
 unfold bpC
 simp [Enc.vals_len, h.may, h.lim, h.nev]
theorem bp_fits {av : Value} {b : Bp} (h : BpL b) : fitsTT ⟨some true, some 50⟩ (.agg ⟨bpC av b⟩) = true := fits_ag (by show (bpC av b).length = 50; exact bp_len h)
theorem take_left' {α : Type} {a b : List α} {n : Nat} (h : a.length = n) : (a ++ b).take n = a := by subst h; simp
theorem drop_left' {α : Type} {a b : List α} {n : Nat} (h : a.length = n) : (a ++ b).drop n = b := by subst h; simp
theorem bp_f0 {b : Bp} (h : BpL b) : fieldAddrT ⟨some true, some 50⟩ (some (0, ⟨some false, some 1⟩)) (bpV b) = some (cptr (lst false (intE.vals b.A))) := by
 unfold bpV
 rw [fieldAddr_cptr, if_pos (bp_fits h)]; rfl
theorem bp_sub {b : Bp} (h : BpL b) {n m : Nat} {l : List Value} (hl : ((bpC (lst false (intE.vals b.A)) b).drop n).take (m + 1) = l) : fieldAddrT ⟨some true, some 50⟩ (some (n, ⟨some true, some (m + 1)⟩)) (bpV b) = some (cptr (.agg ⟨l⟩)) := by
 unfold bpV
 rw [fieldAddr_cptr, if_pos (bp_fits h)]
 show (fieldT (some (n, ⟨some true, some (m + 1)⟩)) (.agg ⟨bpC _ b⟩)).map cptr = _
 rw [field_agg, Option.bind_some, part_agg]
 have e : (Array.extract ⟨bpC (lst false (intE.vals b.A)) b⟩ n (n + (m + 1))) = ⟨l⟩ := by
  rw [← Array.toList_inj, ← hl]; simp [List.take_drop]
 rw [Option.map_some, e]
theorem bp_f1 {b : Bp} (h : BpL b) : fieldAddrT ⟨some true, some 50⟩ (some (1, ⟨some true, some 6⟩)) (bpV b) = some (cptr (.agg ⟨bolE.vals b.may⟩)) := bp_sub h (by
 unfold bpC
 rw [List.drop_succ_cons, List.drop_zero, take_left' (by rw [Enc.vals_len, h.may])])
theorem bp_f7 {b : Bp} (h : BpL b) : fieldAddrT ⟨some true, some 50⟩ (some (7, ⟨some true, some 6⟩)) (bpV b) = some (cptr (.agg ⟨intE.vals b.lim⟩)) := bp_sub h (by
 unfold bpC
 rw [List.drop_succ_cons, drop_left' (by rw [Enc.vals_len, h.may]), take_left' (by rw [Enc.vals_len, h.lim])])
theorem bp_f13 {b : Bp} (h : BpL b) : fieldAddrT ⟨some true, some 50⟩ (some (13, ⟨some true, some 36⟩)) (bpV b) = some (cptr (.agg ⟨bolE.vals b.nev⟩)) := bp_sub h (by
 unfold bpC
 rw [List.drop_succ_cons, ← List.append_assoc, drop_left' (by rw [List.length_append, Enc.vals_len, Enc.vals_len, h.may, h.lim]), take_left' (by rw [Enc.vals_len, h.nev])])
theorem bp_get49 {av : Value} {b : Bp} (h : BpL b) : (bpC av b)[49]? = some (.int .i64 b.most) := by
 unfold bpC
 rw [List.getElem?_cons_succ, List.getElem?_append_right (by rw [Enc.vals_len, h.may]; omega), List.getElem?_append_right (by rw [Enc.vals_len, Enc.vals_len, h.may, h.lim]; omega), List.getElem?_append_right (by rw [Enc.vals_len, Enc.vals_len, Enc.vals_len, h.may, h.lim, h.nev]; omega), Enc.vals_len, Enc.vals_len, Enc.vals_len, h.may, h.lim, h.nev]; rfl
theorem bp_f49 {b : Bp} (h : BpL b) : fieldAddrT ⟨some true, some 50⟩ (some (49, ⟨some false, some 1⟩)) (bpV b) = some (cptr (.int .i64 b.most)) := by
 unfold bpV
 rw [fieldAddr_cptr, if_pos (bp_fits h)]
 show ((⟨bpC _ b⟩ : Array Value)[49]?).map cptr = _
 rw [List.getElem?_toArray, bp_get49 h]; rfl
theorem bol_i {l : List Bool} {n u : Nat} (hl : l.length = n) (hu : u < n) : indexAddrT (.arr n ⟨some false, some 1⟩) (cptr (.agg ⟨bolE.vals l⟩)) (.int .i64 (u : Int)) = some (cptr (.bool (l[u]'(by omega)))) := by
 rw [index_arrC, if_pos ⟨by omega, by omega⟩]
 show ((⟨bolE.vals l⟩ : Array Value)[(u : Int).toNat * 1]?).map cptr = _
 rw [Int.toNat_natCast, Nat.mul_one, List.getElem?_toArray, Enc.vals_get (by omega)]; rfl
theorem nev_i {l : List Bool} {i : Nat} (hi : i < 6) : indexAddrT (.arr 6 ⟨some true, some 6⟩) (cptr (.agg ⟨bolE.vals l⟩)) (.int .i64 (i : Int)) = some (cptr (.agg ⟨bolE.vals ((l.drop (i * 6)).take 6)⟩)) := by
 rw [index_arrC, if_pos ⟨by omega, by omega⟩]
 show (partT ⟨some true, some 6⟩ (⟨bolE.vals l⟩ : Array Value) ((i : Int).toNat * 6)).map cptr = _
 rw [part_agg, Int.toNat_natCast]
 have e : (Array.extract ⟨bolE.vals l⟩ (i * 6) (i * 6 + 6)) = ⟨bolE.vals ((l.drop (i * 6)).take 6)⟩ := by
  rw [← Array.toList_inj]
  simp [← Enc.vals_take, ← Enc.vals_drop, List.take_drop]
 rw [Option.map_some, e]
theorem nev_len {l : List Bool} {i : Nat} (hl : l.length = 36) (hi : i < 6) : ((l.drop (i * 6)).take 6).length = 6 := by simp; omega
structure BS where
 U : List Int
 v : Int
 l : Int
 k : Nat
def BS.c (x : BS) : List Value := intE.vals x.U ++ [.int .i64 x.v, .int .i64 x.l, .int .i64 x.k]
def BS.V (x : BS) : Value := .agg ⟨x.c⟩
structure BsW (A : List Int) (x : BS) : Prop where
 u : x.U.length = 6
 b : ∀ z ∈ x.U, 0 ≤ z ∧ z ≤ x.v
 l : -1 ≤ x.l ∧ x.l < 6
 v : 0 ≤ x.v ∧ x.v ≤ (x.k : Int) * 1099511627776
 k : x.k ≤ A.length
theorem bs_len {x : BS} (h : x.U.length = 6) : x.c.length = 9 := by unfold BS.c; rw [List.length_append, Enc.vals_len, h]; rfl
theorem bs_get {x : BS} {u : Nat} (hu : u < x.U.length) : x.c[u]? = some (.int .i64 x.U[u]) := by
 unfold BS.c
 rw [List.getElem?_append_left (by rw [Enc.vals_len]; exact hu)]
 exact Enc.vals_get hu
theorem bs_get6 {x : BS} (h : x.U.length = 6) : x.c[6]? = some (.int .i64 x.v) := by
 unfold BS.c; rw [List.getElem?_append_right (by rw [Enc.vals_len]; omega), Enc.vals_len, h]; rfl
theorem bs_get7 {x : BS} (h : x.U.length = 6) : x.c[7]? = some (.int .i64 x.l) := by
 unfold BS.c; rw [List.getElem?_append_right (by rw [Enc.vals_len]; omega), Enc.vals_len, h]; rfl
theorem bs_get8 {x : BS} (h : x.U.length = 6) : x.c[8]? = some (.int .i64 x.k) := by
 unfold BS.c; rw [List.getElem?_append_right (by rw [Enc.vals_len]; omega), Enc.vals_len, h]; rfl
theorem bs_set {x : BS} {u : Nat} {z : Int} (hu : u < x.U.length) : x.c.set u (.int .i64 z) = BS.c ⟨x.U.set u z, x.v, x.l, x.k⟩ := by
 unfold BS.c
 rw [List.set_append_left _ _ (by rw [Enc.vals_len]; exact hu), show Value.int .i64 z = intE.e z from rfl, Enc.vals_put]
theorem bs_set6 {x : BS} {z : Int} (h : x.U.length = 6) : x.c.set 6 (.int .i64 z) = BS.c ⟨x.U, z, x.l, x.k⟩ := by
 unfold BS.c
 rw [List.set_append_right _ _ (by rw [Enc.vals_len]; omega), Enc.vals_len, h]; rfl
theorem bs_set7 {x : BS} {z : Int} (h : x.U.length = 6) : x.c.set 7 (.int .i64 z) = BS.c ⟨x.U, x.v, z, x.k⟩ := by
 unfold BS.c
 rw [List.set_append_right _ _ (by rw [Enc.vals_len]; omega), Enc.vals_len, h]; rfl
theorem bs_set8 {x : BS} {z : Nat} (h : x.U.length = 6) : x.c.set 8 (.int .i64 (z : Int)) = BS.c ⟨x.U, x.v, x.l, z⟩ := by
 unfold BS.c
 rw [List.set_append_right _ _ (by rw [Enc.vals_len]; omega), Enc.vals_len, h]; rfl
theorem bs_all (x : BS) (n : Nat) : x.c.all (settled (n + 1)) = true := by
 unfold BS.c
 rw [List.all_append, List.all_eq_true.2 (fun v hv => by obtain ⟨a, _, rfl⟩ := List.mem_map.1 hv; rfl)]; rfl
theorem bs_bel (x : BS) (d n : Nat) : x.c.all (below (d + 1) n) = true := by
 unfold BS.c
 rw [List.all_append, ints_bel]; rfl
theorem bs_reify (x : BS) (h : Heap) (n : Nat) : reify E.P (n + 2) h x.V = some x.V := by
 show (reifyC E.P (n + 1) h x.c).map _ = _
 rw [reifyC_set (by have := bs_all x 7; exact this)]; rfl
def zB : BS := ⟨[0, 0, 0, 0, 0, 0], 0, 0, 0⟩
def bs0 : BS := ⟨[0, 0, 0, 0, 0, 0], 0, -1, 0⟩
theorem bs0_w (A : List Int) : BsW A bs0 := ⟨rfl, by decide, by decide, by decide, Nat.zero_le _⟩
set_option maxRecDepth 100000 in
theorem start_spec : pureCall E.P (L E) 68 [] = some bs0.V := pureCall_le (evF_L 20) (by kernel_rfl)
def nextB (b : Bp) (x : BS) (u : Int) : BS × Bool :=
 if u < 0 ∨ 6 ≤ u ∨ b.may.getD u.toNat false = false ∨ x.k = b.A.length ∨ (0 ≤ x.l ∧ b.nev.getD (6 * x.l.toNat + u.toNat) false = true) then (x, false)
 else (⟨x.U.set u.toNat (x.U.getD u.toNat 0 + b.A.getD x.k 0), x.v + b.A.getD x.k 0, u, x.k + 1⟩,
  decide (x.U.getD u.toNat 0 + b.A.getD x.k 0 ≤ b.lim.getD u.toNat 0) && decide (x.v + b.A.getD x.k 0 ≤ b.most))
theorem nextB_w {b : Bp} (hA : AOk b.A) {x : BS} (hx : BsW b.A x) (u : Int) : BsW b.A (nextB b x u).1 := by
 unfold nextB
 split
 ·exact hx
 ·rename_i h
  have hk : x.k < b.A.length := by have := hx.k; have : x.k ≠ b.A.length := fun e => h (.inr (.inr (.inr (.inl e)))); omega
  have e : b.A.getD x.k 0 = b.A[x.k] := by rw [List.getD_eq_getElem?_getD, List.getElem?_eq_getElem hk]; rfl
  have ha := hA.a _ (List.getElem_mem hk)
  have hu : u.toNat < x.U.length := by have := hx.u; have : ¬ 6 ≤ u := fun e => h (.inr (.inl e)); omega
  have e2 : x.U.getD u.toNat 0 = x.U[u.toNat] := by rw [List.getD_eq_getElem?_getD, List.getElem?_eq_getElem hu]; rfl
  have hb := hx.b _ (List.getElem_mem hu)
  have hv := hx.v
  rw [e, e2]
  refine ⟨by show (x.U.set _ _).length = 6; rw [List.length_set]; exact hx.u, fun z hz => ?_, ⟨by show -1 ≤ u; have : ¬ u < 0 := fun e => h (.inl e); omega, by show u < 6; have : ¬ 6 ≤ u := fun e => h (.inr (.inl e)); omega⟩, ?_, hk⟩
  ·show 0 ≤ z ∧ z ≤ x.v + b.A[x.k]
   rcases List.mem_or_eq_of_mem_set hz with q | q
   ·have := hx.b z q; omega
   ·omega
  ·show 0 ≤ x.v + b.A[x.k] ∧ x.v + b.A[x.k] ≤ ((x.k + 1 : Nat) : Int) * 1099511627776
   omega
theorem sBS : szOf E.P 84 = some 9 := by kernel_rfl
theorem aBS : aggT E.P 84 = some true := by kernel_rfl
theorem nil_bp {b : Bp} {h : Heap} : nilT (bpV b) h = some (bpV b, h) := rfl
theorem getD_eq {α : Type} {l : List α} {i : Nat} {d : α} (h : i < l.length) : l.getD i d = l[i] := by rw [List.getD_eq_getElem?_getD, List.getElem?_eq_getElem h]; rfl
set_option maxHeartbeats 4000000 in
theorem next_no (b : Bp) (hb : BpL b) (_hA : b.A.length ≤ 1000) (x : BS) (hx : BsW b.A x) (u : Int)
  (h : u < 0 ∨ 6 ≤ u ∨ b.may.getD u.toNat false = false ∨ x.k = b.A.length ∨ (0 ≤ x.l ∧ b.nev.getD (6 * x.l.toNat + u.toNat) false = true)) :
  pureCall E.P (L E) 69 [bpV b, x.V, .int .i64 u] = some (.tuple ⟨[x.V, .bool false]⟩) := by
 have hU := hx.u
 have f1 := bp_f1 hb
 have f0 := bp_f0 hb
 have f13 := bp_f13 hb
 have nb : ∀ h, nilT (bpV b) h = some (bpV b, h) := fun h => nil_bp
 have la : ∀ h, lenT .sl h (lst false (intE.vals b.A)) = some (.int .i64 b.A.length) := fun h => Enc.o_len (O := intE) (k := some false) Enc.ok_some
 generalize bpV b = B at *
 have ld : ∀ j w t, x.c[j]? = some w → loadT ⟨some false, some 1⟩ (AObj.cells 84 x.c 0 :: t) (.pointer (some ⟨0, j, none⟩)) = some w := fun j w t hj => obj_load (b := 0) (j := j) rfl hj
 have l7 := fun t => ld 7 _ t (bs_get7 hU)
 have l8 := fun t => ld 8 _ t (bs_get8 hU)
 have lA : ∀ t, loadT ⟨some true, some 9⟩ (AObj.cells 84 x.c 0 :: t) (.pointer (some ⟨0, 0, none⟩)) = some x.V := fun t => obj_all (b := 0) rfl (bs_len hU)
 have sA : storeT (some 9) [AObj.cells 84 x.c 0, AObj.cells 84 zB.c 0] 0 x.V (.pointer (some ⟨1, 0, none⟩)) = some [AObj.cells 84 x.c 0, AObj.cells 84 x.c 0] :=
  (obj_put (h := [AObj.cells 84 x.c 0, AObj.cells 84 zB.c 0]) (b := 1) (n := 9) (lo := 0) (t := 84) (c := zB.c) rfl rfl (bs_len hU) (by decide) (Nat.zero_le _)).trans rfl
 have lR : loadT ⟨some true, some 9⟩ [AObj.cells 84 x.c 0, AObj.cells 84 x.c 0] (.pointer (some ⟨1, 0, none⟩)) = some x.V := obj_all (b := 1) rfl (bs_len hU)
 have rf := fun h => bs_reify x h 6
 have ez : zB.c = [.int .i64 0, .int .i64 0, .int .i64 0, .int .i64 0, .int .i64 0, .int .i64 0, .int .i64 0, .int .i64 0, .int .i64 0] := rfl
 rw [ez] at sA
 rw [pureCall_fn F69 rfl]
 unfold BS.V at lA sA lR rf ⊢
 by_cases q1 : u < 0
 ·simp -implicitDefEqProofs [r69, p69, q1, lA, sA, lR, rf]
 by_cases q2 : 6 ≤ u
 ·simp -implicitDefEqProofs [r69, p69, q1, q2, lA, sA, lR, rf]
 have h := (h.resolve_left q1).resolve_left q2
 obtain ⟨n, rfl⟩ : ∃ n : Nat, u = (n : Int) := ⟨u.toNat, by omega⟩
 have hn : n < 6 := by omega
 rw [Int.toNat_natCast] at h
 have hnm : n < b.may.length := by have := hb.may; omega
 have i1 := bol_i hb.may hn
 rw [getD_eq hnm] at h
 generalize b.may[n] = mb at *
 cases mb with
 | false => simp -implicitDefEqProofs [r69, p69, q1, q2, rop_nilT, nb, f1, i1, lA, sA, lR, rf]
 | true =>
  have h := h.resolve_left (by decide)
  by_cases q4 : x.k = b.A.length
  ·rw [q4] at l8
   simp -implicitDefEqProofs [r69, p69, q1, q2, rop_nilT, nb, f1, i1, f0, la, l8, lA, sA, lR, rf]
  ·obtain ⟨h1, h2⟩ := h.resolve_left q4
   have q4' : ¬ ((x.k : Int) = b.A.length) := by omega
   obtain ⟨m, hm⟩ : ∃ m : Nat, x.l = (m : Int) := ⟨x.l.toNat, by omega⟩
   have hm6 : m < 6 := by have := hx.l; omega
   rw [hm, Int.toNat_natCast] at h2
   have i13 := nev_i (l := b.nev) hm6
   have i14 := bol_i (nev_len hb.nev hm6) hn
   have hg : 6 * m + n < b.nev.length := by have := hb.nev; omega
   rw [getD_eq hg] at h2
   have e3 : ((b.nev.drop (m * 6)).take 6)[n]'(by rw [nev_len hb.nev hm6]; exact hn) = true := by
    rw [List.getElem_take, List.getElem_drop, ← h2]
    congr 1; omega
   rw [e3] at i14
   rw [hm] at l7
   simp -implicitDefEqProofs [r69, p69, q1, q2, rop_nilT, nb, f1, i1, f0, la, l8, q4', l7, f13, i13, i14, lA, sA, lR, rf]
end Go.Proofs.Ytcnafncmfiogcaa.Bm
namespace Go.Proofs.Ytcnafncmfiogcaa.Bm
open Go Go.RowKit
open Cp (Q nameB limS limQ mayQ prQ validQ badP hasP bitB)
set_option maxHeartbeats 4000000 in
theorem next_yes (b : Bp) (hb : BpL b) (hA : AOk b.A) (x : BS) (hx : BsW b.A x) (n : Nat) (hn : n < 6) (hm : b.may[n]'(by have := hb.may; omega) = true) (hk : x.k < b.A.length)
  (hl : ∀ m : Nat, x.l = (m : Int) → b.nev.getD (6 * m + n) false = false) :
  pureCall E.P (L E) 69 [bpV b, x.V, .int .i64 (n : Int)] = some (.tuple ⟨[BS.V ⟨x.U.set n (x.U[n]'(by have := hx.u; omega) + b.A[x.k]), x.v + b.A[x.k], (n : Int), x.k + 1⟩,
   .bool (decide (x.U[n]'(by have := hx.u; omega) + b.A[x.k] ≤ b.lim[n]'(by have := hb.lim; omega)) && decide (x.v + b.A[x.k] ≤ b.most))]⟩) := by
 have hU := hx.u
 have hnU : n < x.U.length := by omega
 have hnl : n < b.lim.length := by have := hb.lim; omega
 have ha := hA.a _ (List.getElem_mem hk)
 have h13 := hA.len
 have hz := hx.b _ (List.getElem_mem hnU)
 have hv := hx.v
 have hxk := hx.k
 have f1 := bp_f1 hb
 have f0 := bp_f0 hb
 have f7 := bp_f7 hb
 have f13 := bp_f13 hb
 have f49 := bp_f49 hb
 have i1 := bol_i hb.may hn
 rw [hm] at i1
 have i7 := st_i5 hb.lim hn
 have nb : ∀ h, nilT (bpV b) h = some (bpV b, h) := fun h => nil_bp
 have la : ∀ h, lenT .sl h (lst false (intE.vals b.A)) = some (.int .i64 b.A.length) := fun h => Enc.o_len (O := intE) (k := some false) Enc.ok_some
 have ia : indexAddrT (.sl 3 ⟨some false, some 1⟩) (lst false (intE.vals b.A)) (.int .i64 (x.k : Int)) = some (cptr (.int .i64 b.A[x.k])) := Enc.index_tree (O := intE) hk
 have cB : isCp (bpV b) = true := rfl
 generalize bpV b = B at *
 generalize hx1 : (⟨x.U.set n (x.U[n] + b.A[x.k]), x.v, x.l, x.k⟩ : BS) = x1
 have e1 : x.c.set n (.int .i64 (x.U[n] + b.A[x.k])) = x1.c := by rw [bs_set hnU, hx1]
 have hU1 : x1.U.length = 6 := by rw [← hx1]; show (x.U.set _ _).length = 6; rw [List.length_set, hU]
 have ev1 : x1.v = x.v := by rw [← hx1]
 generalize hx2 : (⟨x1.U, x.v + b.A[x.k], x1.l, x1.k⟩ : BS) = x2
 have e2 : x1.c.set 6 (.int .i64 (x.v + b.A[x.k])) = x2.c := by rw [bs_set6 hU1, hx2]
 have hU2 : x2.U.length = 6 := by rw [← hx2]; exact hU1
 generalize hx3 : (⟨x2.U, x2.v, (n : Int), x2.k⟩ : BS) = x3
 have e3 : x2.c.set 7 (.int .i64 (n : Int)) = x3.c := by rw [bs_set7 hU2, hx3]
 have hU3 : x3.U.length = 6 := by rw [← hx3]; exact hU2
 have ek3 : x3.k = x.k := by rw [← hx3, ← hx2, ← hx1]
 generalize hx4 : (⟨x3.U, x3.v, x3.l, x.k + 1⟩ : BS) = x4
 have e4 : x3.c.set 8 (.int .i64 ((x.k : Int) + 1)) = x4.c := by
  have := bs_set8 (x := x3) (z := x.k + 1) hU3
  rw [hx4, Int.natCast_add] at this
  exact this
 have hU4 : x4.U.length = 6 := by rw [← hx4]; exact hU3
 have ev4 : x4.v = x.v + b.A[x.k] := by rw [← hx4, ← hx3, ← hx2]
 have eu4 : x4.U = x.U.set n (x.U[n] + b.A[x.k]) := by rw [← hx4, ← hx3, ← hx2, ← hx1]
 have eg4 : x4.c[n]? = some (.int .i64 (x.U[n] + b.A[x.k])) := by
  rw [bs_get (by omega)]
  simp only [eu4, List.getElem_set_self]
 have ef : (⟨x.U.set n (x.U[n] + b.A[x.k]), x.v + b.A[x.k], (n : Int), x.k + 1⟩ : BS) = x4 := by rw [← hx4, ← hx3, ← hx2, ← hx1]
 rw [ef]
 have ld : ∀ (y : BS) j w t, y.c[j]? = some w → loadT ⟨some false, some 1⟩ (AObj.cells 84 y.c 0 :: t) (.pointer (some ⟨0, j, none⟩)) = some w := fun y j w t hj => obj_load (b := 0) (j := j) rfl hj
 have ldn : ∀ (y : BS) j w t, y.c[j]? = some w → loadT ⟨some false, some 1⟩ (AObj.cells 84 y.c 0 :: t) (cAt 0 j) = some w := fun y j w t hj => obj_load (b := 0) (j := j) rfl hj
 have st : ∀ (y y' : BS) (j : Nat) (w : Value) (t : Heap), y.U.length = 6 → j < 9 → cellsOf w = some [w] → y.c.set j w = y'.c → storeT (some 1) (AObj.cells 84 y.c 0 :: t) 0 w (cAt 0 j) = some (AObj.cells 84 y'.c 0 :: t) := fun y y' j w t h6 hj hc he =>
  (obj_store (b := 0) (j := j) (lo := 0) (t := 84) (c := y.c) rfl (by rw [bs_len h6]; exact hj) (Nat.zero_le _) hc).trans (by rw [he]; rfl)
 have l7 := fun t => ld x 7 _ t (bs_get7 hU)
 have l8 := fun t => ld x 8 _ t (bs_get8 hU)
 have lU := fun t => ldn x n _ t (bs_get hnU)
 have s1 := fun t => st x x1 n _ t hU (by omega) rfl e1
 have l61 := fun t => ld x1 6 _ t (bs_get6 hU1)
 have s2 : ∀ t, storeT (some 1) (AObj.cells 84 x1.c 0 :: t) 0 (.int .i64 (x.v + b.A[x.k])) (.pointer (some ⟨0, 6, none⟩)) = some (AObj.cells 84 x2.c 0 :: t) := fun t => st x1 x2 6 _ t hU1 (by omega) rfl e2
 have s3 : ∀ t, storeT (some 1) (AObj.cells 84 x2.c 0 :: t) 0 (.int .i64 (n : Int)) (.pointer (some ⟨0, 7, none⟩)) = some (AObj.cells 84 x3.c 0 :: t) := fun t => st x2 x3 7 _ t hU2 (by omega) rfl e3
 have l83 := fun t => ld x3 8 _ t (bs_get8 hU3)
 rw [ek3] at l83
 rw [ev1] at l61
 have s4 : ∀ t, storeT (some 1) (AObj.cells 84 x3.c 0 :: t) 0 (.int .i64 ((x.k : Int) + 1)) (.pointer (some ⟨0, 8, none⟩)) = some (AObj.cells 84 x4.c 0 :: t) := fun t => st x3 x4 8 _ t hU3 (by omega) rfl e4
 have fz : ∀ z : AObj, freezeV E.P depth 0 [AObj.cells 84 x4.c 0, z] (.pointer (some ⟨0, 0, none⟩)) = some (cptr (.agg ⟨x4.c⟩), [AObj.dead, z]) := fun z =>
  (obj_frz (P := E.P) (lo := 0) (b := 0) (t := 84) (h := [AObj.cells 84 x4.c 0, z]) rfl (by rw [sBS, bs_len hU4]) aBS (Nat.zero_le _) (bs_all x4 7)).trans rfl
 have ff : fitsTT ⟨some true, some 9⟩ (.agg ⟨x4.c⟩) = true := fits_ag (by show x4.c.length = 9; exact bs_len hU4)
 have g0 : fieldAddrT ⟨some true, some 9⟩ (some (0, ⟨some true, some 6⟩)) (cptr (.agg ⟨x4.c⟩)) = some (cptr (.agg ⟨intE.vals x4.U⟩)) := by
  rw [fieldAddr_cptr, if_pos ff]
  show (fieldT (some (0, ⟨some true, some 6⟩)) (.agg ⟨x4.c⟩)).map cptr = _
  rw [field_agg, Option.bind_some, part_agg]
  have e : (Array.extract ⟨x4.c⟩ 0 (0 + 6)) = ⟨intE.vals x4.U⟩ := by
   rw [← Array.toList_inj]
   show _ = intE.vals x4.U
   simp [BS.c]
   rw [List.take_append_of_le_length (by rw [Enc.vals_len]; omega), List.take_of_length_le (by rw [Enc.vals_len]; omega)]
  rw [Option.map_some, e]
 have gi := st_i5 hU4 hn
 have eg4' : x4.U[n]'(by omega) = x.U[n] + b.A[x.k] := by simp only [eu4, List.getElem_set_self]
 rw [eg4'] at gi
 have g6 : fieldAddrT ⟨some true, some 9⟩ (some (6, ⟨some false, some 1⟩)) (cptr (.agg ⟨x4.c⟩)) = some (cptr (.int .i64 (x.v + b.A[x.k]))) := by
  rw [fieldAddr_cptr, if_pos ff]
  show ((⟨x4.c⟩ : Array Value)[6]?).map cptr = _
  rw [List.getElem?_toArray, bs_get6 hU4, ev4]; rfl
 have sA : storeT (some 9) [AObj.dead, AObj.cells 84 zB.c 0] 0 (.agg ⟨x4.c⟩) (.pointer (some ⟨1, 0, none⟩)) = some [AObj.dead, AObj.cells 84 x4.c 0] :=
  (obj_put (h := [AObj.dead, AObj.cells 84 zB.c 0]) (b := 1) (n := 9) (lo := 0) (t := 84) (c := zB.c) rfl rfl (bs_len hU4) (by decide) (Nat.zero_le _)).trans rfl
 have lR : loadT ⟨some true, some 9⟩ [AObj.dead, AObj.cells 84 x4.c 0] (.pointer (some ⟨1, 0, none⟩)) = some (.agg ⟨x4.c⟩) := obj_all (b := 1) rfl (bs_len hU4)
 have rf : ∀ h, reifyC E.P 7 h x4.c = some x4.c := fun h => reifyC_set (by have := bs_all x4 7; exact this)
 have ez : zB.c = [.int .i64 0, .int .i64 0, .int .i64 0, .int .i64 0, .int .i64 0, .int .i64 0, .int .i64 0, .int .i64 0, .int .i64 0] := rfl
 rw [ez] at sA
 have ai : indexAddrT (.arr 6 ⟨some false, some 1⟩) (.pointer (some ⟨0, 0, none⟩)) (.int .i64 (n : Int)) = some (cAt 0 n) := by
  have := arr_idx (b := 0) (off := 0) (len := 6) (k := .i64) (g := some false) hn
  rw [Nat.zero_add] at this
  exact this
 have q1 : ¬ ((n : Int) < 0) := by omega
 have q2 : ¬ (6 ≤ (n : Int)) := by omega
 have q4 : ¬ ((x.k : Int) = b.A.length) := by omega
 have w1 : IntKind.i64.wrap (x.U[n] + b.A[x.k]) = x.U[n] + b.A[x.k] := wrap64 (by omega) (by omega)
 have w2 : IntKind.i64.wrap (x.v + b.A[x.k]) = x.v + b.A[x.k] := wrap64 (by omega) (by omega)
 have w3 : IntKind.i64.wrap ((x.k : Int) + 1) = (x.k : Int) + 1 := wrap64 (by omega) (by omega)
 unfold BS.V
 clear ef ev4 eu4 eg4 eg4' e1 e2 e3 e4 hx1 hx2 hx3 hx4 ev1 ek3 st ld ldn
 generalize x.U[n] = un at *
 generalize b.A[x.k] = a at *
 generalize b.lim[n] = z at *
 rw [pureCall_fn F69 rfl]
 by_cases q5 : x.l < 0
 ·have q5' : ¬ (0 ≤ x.l) := by omega
  by_cases d1 : un + a ≤ z <;> by_cases d2 : x.v + a ≤ b.most <;>
  simp -implicitDefEqProofs [r69, p69, q1, q2, rop_nilT, nb, f1, i1, f0, la, l8, q4, l7, q5', ia, ai, lU, w1, s1, l61, w2, s2, s3, l83, w3, s4, prep_frz, prep_still, fz, rop_loadC, isCp_cptr, ff, g0, gi, f7, i7, g6, f49, d1, d2, sA, lR, rf]
 ·obtain ⟨m, hm'⟩ : ∃ m : Nat, x.l = (m : Int) := ⟨x.l.toNat, by omega⟩
  have hm6 : m < 6 := by have := hx.l; omega
  have h2 := hl m hm'
  have i13 := nev_i (l := b.nev) hm6
  have i14 := bol_i (nev_len hb.nev hm6) hn
  have hg : 6 * m + n < b.nev.length := by have := hb.nev; omega
  rw [getD_eq hg] at h2
  have e3 : ((b.nev.drop (m * 6)).take 6)[n]'(by rw [nev_len hb.nev hm6]; exact hn) = false := by
   rw [List.getElem_take, List.getElem_drop, ← h2]
   congr 1; omega
  rw [e3] at i14
  rw [hm'] at l7
  by_cases d1 : un + a ≤ z <;> by_cases d2 : x.v + a ≤ b.most <;>
  simp -implicitDefEqProofs [r69, p69, q1, q2, rop_nilT, nb, f1, i1, f0, la, l8, q4, l7, f13, i13, i14, ia, ai, lU, w1, s1, l61, w2, s2, s3, l83, w3, s4, prep_frz, prep_still, fz, rop_loadC, isCp_cptr, ff, g0, gi, f7, i7, g6, f49, d1, d2, sA, lR, rf]
theorem next_spec (b : Bp) (hb : BpL b) (hA : AOk b.A) (x : BS) (hx : BsW b.A x) (u : Int) :
  pureCall E.P (L E) 69 [bpV b, x.V, .int .i64 u] = some (.tuple ⟨[(nextB b x u).1.V, .bool (nextB b x u).2]⟩) := by
 unfold nextB
 by_cases h : u < 0 ∨ 6 ≤ u ∨ b.may.getD u.toNat false = false ∨ x.k = b.A.length ∨ (0 ≤ x.l ∧ b.nev.getD (6 * x.l.toNat + u.toNat) false = true)
 ·rw [if_pos h]
  exact next_no b hb (by have := hA.len; omega) x hx u h
 ·rw [if_neg h]
  obtain ⟨n, rfl⟩ : ∃ n : Nat, u = (n : Int) := ⟨u.toNat, by have : ¬ u < 0 := fun e => h (.inl e); omega⟩
  have hn : n < 6 := by have : ¬ 6 ≤ (n : Int) := fun e => h (.inr (.inl e)); omega
  rw [Int.toNat_natCast] at h ⊢
  have hnm : n < b.may.length := by have := hb.may; omega
  have hnU : n < x.U.length := by have := hx.u; omega
  have hnl : n < b.lim.length := by have := hb.lim; omega
  have hk : x.k < b.A.length := by have := hx.k; have : x.k ≠ b.A.length := fun e => h (.inr (.inr (.inr (.inl e)))); omega
  have hm : b.may[n] = true := by
   cases hc : b.may[n] with
   | true => rfl
   | false => exact absurd (.inr (.inr (.inl (by rw [getD_eq hnm, hc])))) h
  rw [getD_eq hnU, getD_eq hk, getD_eq hnl]
  refine next_yes b hb hA x hx n hn hm hk fun m hm' => ?_
  cases hc : b.nev.getD (6 * m + n) false with
  | false => rfl
  | true => exact absurd (.inr (.inr (.inr (.inr ⟨by omega, by rw [hm', Int.toNat_natCast]; exact hc⟩)))) h
theorem bs_flat (x : BS) : flat x.V = true := by
 show x.c.toArray.all atom = true
 rw [List.all_toArray]
 unfold BS.c
 rw [List.all_append, List.all_eq_true.2 (fun v hv => by obtain ⟨a, _, rfl⟩ := List.mem_map.1 hv; rfl)]; rfl
theorem bs_scalar (x : BS) : scalar x.V = true := bs_flat x
def folB (b : Bp) : BS → List Int → BS × Bool
 | x, [] => (x, true)
 | x, u :: c => if (nextB b x u).2 = true then folB b (nextB b x u).1 c else ((nextB b x u).1, false)
theorem folB_cons (b : Bp) (x : BS) (u : Int) (c : List Int) : folB b x (u :: c) = if (nextB b x u).2 = true then folB b (nextB b x u).1 c else ((nextB b x u).1, false) := rfl
theorem folB_w {b : Bp} (hA : AOk b.A) : ∀ (c : List Int) {x : BS}, BsW b.A x → BsW b.A (folB b x c).1
 | [], _, h => h
 | u :: c, x, h => by
  rw [folB_cons]
  split
  ·exact folB_w hA c (nextB_w hA h u)
  ·exact nextB_w hA h u
set_option maxHeartbeats 2000000 in
theorem follow_spec (b : Bp) (hb : BpL b) (hA : AOk b.A) (kc : Option Bool) (c : List Int) (hkc : Enc.Ok kc c) (hc : c.length ≤ 1000000) :
  pureCall E.P (L E) 53 [bpV b, intE.o kc c] = some (.tuple ⟨[(folB b bs0 c).1.V, .bool (folB b bs0 c).2]⟩) := by
 have lc := fun h => Enc.o_len (O := intE) (h := h) hkc
 have ic : ∀ (i : Nat) (hi : i < c.length), indexAddrT (.sl 3 ⟨some false, some 1⟩) (intE.o kc c) (.int .i64 (i : Int)) = some (cptr (.int .i64 c[i])) := fun i hi => Enc.index_o (O := intE) hkc hi
 generalize intE.o kc c = CV at *
 have ns := fun x hx u => next_spec b hb hA x hx u
 have rB : ∀ h, reify E.P 8 h (bpV b) = some (bpV b) := fun h => rfl
 generalize bpV b = B at *
 have st := start_spec
 have s1 : ∀ (y z w : BS), z.U.length = 6 → w.U.length = 6 → storeT (some 9) [AObj.cells 84 y.c 0, AObj.cells 84 z.c 0] 0 w.V (.pointer (some ⟨1, 0, none⟩)) = some [AObj.cells 84 y.c 0, AObj.cells 84 w.c 0] := fun y z w hz hw =>
  (obj_put (h := [AObj.cells 84 y.c 0, AObj.cells 84 z.c 0]) (b := 1) (n := 9) (lo := 0) (t := 84) (c := z.c) rfl (bs_len hz) (bs_len hw) (by decide) (Nat.zero_le _)).trans rfl
 have s0 : ∀ (y z w : BS), y.U.length = 6 → w.U.length = 6 → storeT (some 9) [AObj.cells 84 y.c 0, AObj.cells 84 z.c 0] 0 w.V (.pointer (some ⟨0, 0, none⟩)) = some [AObj.cells 84 w.c 0, AObj.cells 84 z.c 0] := fun y z w hz hw =>
  (obj_put (h := [AObj.cells 84 y.c 0, AObj.cells 84 z.c 0]) (b := 0) (n := 9) (lo := 0) (t := 84) (c := y.c) rfl (bs_len hz) (bs_len hw) (by decide) (Nat.zero_le _)).trans rfl
 have l1 : ∀ (y z : BS), z.U.length = 6 → loadT ⟨some true, some 9⟩ [AObj.cells 84 y.c 0, AObj.cells 84 z.c 0] (.pointer (some ⟨1, 0, none⟩)) = some z.V := fun y z hz => obj_all (b := 1) rfl (bs_len hz)
 have l0 : ∀ (y z : BS), y.U.length = 6 → loadT ⟨some true, some 9⟩ [AObj.cells 84 y.c 0, AObj.cells 84 z.c 0] (.pointer (some ⟨0, 0, none⟩)) = some y.V := fun y z hz => obj_all (b := 0) rfl (bs_len hz)
 have rf := fun (x : BS) h => bs_reify x h 6
 have hz : zB.U.length = 6 := rfl
 have h0 : bs0.U.length = 6 := rfl
 have ez : zB.c = [.int .i64 0, .int .i64 0, .int .i64 0, .int .i64 0, .int .i64 0, .int .i64 0, .int .i64 0, .int .i64 0, .int .i64 0] := rfl
 have i1 := s1 zB zB bs0 hz h0
 rw [ez] at i1
 rw [pureCall_fn F53 rfl]
 simp -implicitDefEqProofs [r53, p53, ret0 m68, st, i1, bs_scalar, lc]
 rw [LL_for (γ := BS) c bs0 (fun i _ => [(13, .int .i64 i)]) (fun _ x => [AObj.cells 84 zB.c 0, AObj.cells 84 x.c 0])
  (fun _ rest x => if (folB b x rest).2 = true then (.exit 0, [(13, undef)], [AObj.cells 84 zB.c 0, AObj.cells 84 (folB b x rest).1.c 0]) else (.ret, [(5, .bool false), (13, undef)], [AObj.cells 84 (folB b x rest).1.c 0, AObj.cells 84 (folB b x rest).1.c 0])) (fun _ x => BsW b.A x) (by omega) (bs0_w b.A)]
 ·have hw := folB_w hA c (bs0_w b.A)
  generalize folB b bs0 c = y at *
  obtain ⟨y, ok⟩ := y
  have r1 := rf y
  have l1 := l1 zB y hw.u
  have s0 := s0 zB y y hz hw.u
  have l0 := l0 y y hw.u
  cases ok
  ·simp -implicitDefEqProofs [k53_3, l0, r1]
  ·simp -implicitDefEqProofs [k53_3, l1, s0, l0, r1]
 ·simp -implicitDefEqProofs [k53_3]
 ·rfl
 ·intro nx i x hi _
  have e : folB b x [] = (x, true) := rfl
  rw [e]
  simp -implicitDefEqProofs [r53_3, k53_3, hi, trim_le]
 ·intro nx i u rest x hi hv hd hw hx ih
  have hi' : (i : Int) < (c.length : Int) := by omega
  have xi := ic i hi
  rw [hv] at xi
  have n1 := ns x hx u
  have w1 := nextB_w hA hx u
  have ih := ih _ w1
  have l1 := l1 zB x hx.u
  have s1 := s1 zB x _ hx.u w1.u
  have l2 := l1
  rw [folB_cons]
  generalize nextB b x u = y at *
  obtain ⟨y, ok⟩ := y
  have l3 := l1
  have r0 := rf x
  have ly : loadT ⟨some true, some 9⟩ [AObj.cells 84 zB.c 0, AObj.cells 84 y.c 0] (.pointer (some ⟨1, 0, none⟩)) = some y.V := obj_all (b := 1) rfl (bs_len w1.u)
  have s2 := s0 zB y y hz w1.u
  cases ok
  ·simp -implicitDefEqProofs [r53_3, k53_3, hi', xi, l1, ret0 m69, bs_flat, rB, r0, n1, s1, ly, s2, trim_le]
  ·simp -implicitDefEqProofs [k53_3] at ih
   simp -implicitDefEqProofs [r53_3, k53_3, hi', xi, l1, ret0 m69, bs_flat, rB, r0, n1, s1, hw, trim_le]
   exact ih
set_option maxHeartbeats 1000000 in
theorem breach_spec (b : Bp) (hb : BpL b) (hA : AOk b.A) (x : BS) (hx : BsW b.A x) :
  pureCall E.P (L E) 54 [bpV b, x.V] = some (.int .i64 (min (x.v + (b.A.drop x.k).sum) b.most)) := by
 have hU := hx.u
 have hk := hx.k
 have hv := hx.v
 have h13 := hA.len
 have f0 := bp_f0 hb
 have f49 := bp_f49 hb
 have nb : ∀ h, nilT (bpV b) h = some (bpV b, h) := fun h => nil_bp
 generalize bpV b = B at *
 have ld : ∀ j w t, x.c[j]? = some w → loadT ⟨some false, some 1⟩ (AObj.cells 84 x.c 0 :: t) (.pointer (some ⟨0, j, none⟩)) = some w := fun j w t hj => obj_load (b := 0) (j := j) rfl hj
 have l6 := fun t => ld 6 _ t (bs_get6 hU)
 have l8 := fun t => ld 8 _ t (bs_get8 hU)
 have sd : ∀ h : Heap, sliceT (.sl 3 ⟨some false, some 1⟩) h (lst false (intE.vals b.A)) (some (.int .i64 (x.k : Int))) none none = some (lst false (intE.vals (b.A.drop x.k))) := fun h => Enc.drop_tree (O := intE) rfl hk
 have lD : ∀ h, lenT .sl h (lst false (intE.vals (b.A.drop x.k))) = some (.int .i64 (b.A.drop x.k).length) := fun h => Enc.o_len (O := intE) (k := some false) Enc.ok_some
 have iD : ∀ (i : Nat) (hi : i < (b.A.drop x.k).length), indexAddrT (.sl 3 ⟨some false, some 1⟩) (lst false (intE.vals (b.A.drop x.k))) (.int .i64 (i : Int)) = some (cptr (.int .i64 (b.A.drop x.k)[i])) := fun i hi => Enc.index_tree (O := intE) hi
 have hD : ∀ a ∈ b.A.drop x.k, 0 ≤ a ∧ a ≤ 1099511627776 := fun a ha => hA.a a (List.mem_of_mem_drop ha)
 have hDl : (b.A.drop x.k).length ≤ 13 := by rw [List.length_drop]; omega
 generalize b.A.drop x.k = D at *
 have eV : x.V = .agg ⟨x.c⟩ := rfl
 rw [pureCall_fn F54 rfl, eV]
 simp -implicitDefEqProofs [r54, p54, l6, l8, rop_nilT, nb, f0, sd, lD]
 rw [LL_for (γ := Int) D x.v (fun i y => [(5, .int .i64 y), (18, .int .i64 i)]) (fun _ _ => [AObj.cells 84 x.c 0]) (fun _ rest y => (.exit 0, [(5, .int .i64 (y + rest.sum)), (18, undef)], [AObj.cells 84 x.c 0])) (fun i y => 0 ≤ y ∧ y ≤ ((x.k : Int) + i) * 1099511627776) (by omega) ⟨hv.1, by simpa using hv.2⟩]
 ·simp -implicitDefEqProofs [k54_3, rop_nilT, nb, f49, minI]
 ·simp -implicitDefEqProofs [k54_3]
 ·rfl
 ·intro nx i y hi _
  simp -implicitDefEqProofs [r54_3, k54_3, hi, trim_le]
 ·intro nx i a rest y hi ha hd hw hy ih
  have hi' : (i : Int) < (D.length : Int) := by omega
  have xi := iD i hi
  rw [ha] at xi
  have hab := hD a (ha ▸ List.getElem_mem hi)
  have ih := ih (y + a) ⟨by omega, by rw [Int.natCast_add, ← Int.add_assoc, Int.add_mul]; omega⟩
  have e : y + (a :: rest).sum = y + a + rest.sum := by rw [List.sum_cons]; omega
  have w1 : IntKind.i64.wrap (y + a) = y + a := wrap64 (by omega) (by omega)
  rw [e]
  simp -implicitDefEqProofs [k54_3] at ih
  simp -implicitDefEqProofs [r54_3, k54_3, hi', xi, w1, hw, trim_le]
  exact ih
end Go.Proofs.Ytcnafncmfiogcaa.Bm
namespace Go.Proofs.Ytcnafncmfiogcaa.Bm
open Go Go.RowKit
open Cp (Q Nd nameB limS limQ mayQ prQ validQ badP hasP bitB next run root take us conts reach)
structure Bq (q : Q) (A : List Int) (b : Bp) : Prop where
 l : BpL b
 A : b.A = A
 may : ∀ u : Nat, u < 6 → b.may.getD u false = bitB q.uses u
 lim : ∀ u : Nat, u < 6 → ∀ x : Int, 0 ≤ x → x ≤ q.most → (x ≤ b.lim.getD u 0 ↔ x ≤ limQ q u)
 nev : ∀ i j : Nat, i < 6 → j < 6 → b.nev.getD (6 * i + j) false = hasP q.never ((i : Int), (j : Int))
 most : b.most = q.most
def lastI (c : List Int) : Int := match c.getLast? with | none => -1 | some w => w
structure Bs (q : Q) (A : List Int) (x : BS) (s : Nd) : Prop where
 w : BsW A x
 left : ∀ u : Nat, u < 6 → s.left u = limQ q u - x.U.getD u 0
 v : x.v = s.v
 l : x.l = lastI s.c
 k : x.k = s.c.length
 rem : s.rem = A.drop s.c.length
 lu : ∀ w, s.c.getLast? = some w → 0 ≤ w ∧ w < 6
theorem root_bs (q : Q) (A : List Int) : Bs q A bs0 (root (prQ q) A) := by
 refine ⟨bs0_w A, fun u hu => ?_, rfl, rfl, rfl, rfl, fun w h => by cases h⟩
 show limQ q u = _
 have : u = 0 ∨ u = 1 ∨ u = 2 ∨ u = 3 ∨ u = 4 ∨ u = 5 := by omega
 rcases this with rfl | rfl | rfl | rfl | rfl | rfl <;> simp [bs0]
theorem next_rel {q : Q} {A : List Int} {b : Bp} (hA : AOk A) (hq : Bq q A b) {x : BS} {s : Nd} (hs : Bs q A x s) (u : Int) :
  (nextB b x u).2 = (next (prQ q) s u).isSome ∧ ∀ t, next (prQ q) s u = some t → Bs q A (nextB b x u).1 t := by
 have hAe := hq.A
 unfold nextB
 by_cases h : u < 0 ∨ 6 ≤ u ∨ b.may.getD u.toNat false = false ∨ x.k = b.A.length ∨ (0 ≤ x.l ∧ b.nev.getD (6 * x.l.toNat + u.toNat) false = true)
 ·rw [if_pos h]
  have key : next (prQ q) s u = none := by
   by_cases hk : x.k = b.A.length
   ·unfold Cp.next
    have : s.rem = [] := by rw [hs.rem, ← hs.k, hk, hAe, List.drop_length]
    rw [this]
   ·refine Cp.next_no ?_
    unfold mayQ
    rcases h with h | h | h | h | ⟨h1, h2⟩
    ·rw [decide_eq_false (by omega)]; rfl
    ·rw [decide_eq_false (show ¬ u < 6 by omega)]; simp
    ·by_cases h0 : u < 0
     ·rw [decide_eq_false (by omega)]; rfl
     by_cases h6 : 6 ≤ u
     ·rw [decide_eq_false (show ¬ u < 6 by omega)]; simp
     have e := hq.may u.toNat (by omega)
     rw [h, show ((u.toNat : Nat) : Int) = u by omega] at e
     rw [← e]; simp
    ·exact absurd h hk
    ·by_cases h0 : u < 0
     ·rw [decide_eq_false (by omega)]; rfl
     by_cases h6 : 6 ≤ u
     ·rw [decide_eq_false (show ¬ u < 6 by omega)]; simp
     rw [hs.l] at h1 h2
     unfold lastI at h1 h2
     cases hl : s.c.getLast? with
     | none => rw [hl] at h1; exact absurd h1 (by decide)
     | some w =>
      rw [hl] at h1 h2
      simp only at h1 h2
      have hw := hs.lu w hl
      have e := hq.nev w.toNat u.toNat (by omega) (by omega)
      rw [h2, show ((u.toNat : Nat) : Int) = u by omega, show ((w.toNat : Nat) : Int) = w by omega] at e
      simp [← e]
  rw [key]
  exact ⟨rfl, fun t ht => by cases ht⟩
 ·rw [if_neg h]
  have h0 : ¬ u < 0 := fun e => h (.inl e)
  have h6 : ¬ 6 ≤ u := fun e => h (.inr (.inl e))
  have hbit : ¬ b.may.getD u.toNat false = false := fun e => h (.inr (.inr (.inl e)))
  have hk : x.k ≠ b.A.length := fun e => h (.inr (.inr (.inr (.inl e))))
  have hnev : ¬ (0 ≤ x.l ∧ b.nev.getD (6 * x.l.toNat + u.toNat) false = true) := fun e => h (.inr (.inr (.inr (.inr e))))
  obtain ⟨n, rfl⟩ : ∃ n : Nat, u = (n : Int) := ⟨u.toNat, by omega⟩
  rw [Int.toNat_natCast] at hbit hnev ⊢
  have hn : n < 6 := by omega
  have hw := hs.w
  have hkl : x.k < A.length := by have := hw.k; rw [hAe] at hk; omega
  have hmay : mayQ q s.c.getLast? (n : Int) = true := by
   unfold mayQ
   have e := hq.may n hn
   have e1 : bitB q.uses n = true := by rw [← e]; simpa using hbit
   rw [decide_eq_true (by omega), decide_eq_true (show (n : Int) < 6 by omega), e1]
   have hl := hs.l
   unfold lastI at hl
   cases hc : s.c.getLast? with
   | none => rfl
   | some w =>
    rw [hc] at hl
    simp only at hl
    have hwu := hs.lu w hc
    have e := hq.nev w.toNat n (by omega) hn
    rw [show ((w.toNat : Nat) : Int) = w by omega] at e
    have : b.nev.getD (6 * w.toNat + n) false = false := by
     cases hz : b.nev.getD (6 * w.toNat + n) false with
     | false => rfl
     | true => exact absurd ⟨by omega, by rw [hl]; exact hz⟩ hnev
    rw [this] at e
    simp [← e]
  have hrem : s.rem = A[x.k] :: A.drop (x.k + 1) := by rw [hs.rem, ← hs.k]; exact List.drop_eq_getElem_cons hkl
  have ha := hA.a _ (List.getElem_mem hkl)
  have eA : b.A.getD x.k 0 = A[x.k] := by rw [hAe]; exact getD_eq hkl
  have hnU : n < x.U.length := by have := hw.u; omega
  have eU : x.U.getD n 0 = x.U[n] := getD_eq hnU
  have hU := hw.b _ (List.getElem_mem hnU)
  have hleft := hs.left n hn
  have hv := hs.v
  rw [Cp.next_may hrem hmay, hleft, eA, eU, hq.most]
  have key : (decide (x.U[n] + A[x.k] ≤ b.lim.getD n 0) && decide (x.v + A[x.k] ≤ q.most)) = decide (0 ≤ limQ q n - x.U[n] - A[x.k] ∧ s.v + A[x.k] ≤ q.most) := by
   rw [Bool.eq_iff_iff, Bool.and_eq_true, decide_eq_true_eq, decide_eq_true_eq, decide_eq_true_eq, hv]
   constructor
   ·rintro ⟨h1, h2⟩
    have := (hq.lim n hn (x.U[n] + A[x.k]) (by omega) (by omega)).1 h1
    exact ⟨by omega, h2⟩
   ·rintro ⟨h1, h2⟩
    exact ⟨(hq.lim n hn (x.U[n] + A[x.k]) (by omega) (by omega)).2 (by omega), h2⟩
  have hw' := nextB_w (b := b) (x := x) (hAe ▸ hA) (hAe ▸ hw) (n : Int)
  unfold nextB at hw'
  rw [if_neg h] at hw'
  rw [Int.toNat_natCast, eA, eU, hAe] at hw'
  show (decide (x.U[n] + A[x.k] ≤ b.lim.getD n 0) && decide (x.v + A[x.k] ≤ q.most)) = _ ∧ _
  rw [key]
  by_cases hc : 0 ≤ limQ q n - x.U[n] - A[x.k] ∧ s.v + A[x.k] ≤ q.most
  ·rw [if_pos hc, decide_eq_true hc]
   refine ⟨rfl, fun t ht => ?_⟩
   have ht := Option.some.inj ht
   subst ht
   have el : (take s (n : Int) A[x.k] (A.drop (x.k + 1))).c.getLast? = some (n : Int) := Cp.last_snoc s.c n
   refine ⟨hw', fun w hw6 => ?_, ?_, ?_, ?_, ?_, fun w hww => ?_⟩
   ·show (if (w : Int) = (n : Int) then s.left n - A[x.k] else s.left w) = limQ q w - (x.U.set n (x.U[n] + A[x.k])).getD w 0
    have hwU : w < x.U.length := by have := hw.u; omega
    rw [getD_eq (by rw [List.length_set]; exact hwU), List.getElem_set]
    by_cases e : n = w
    ·subst e; rw [if_pos rfl, if_pos rfl, hleft, eU]; omega
    ·rw [if_neg (by omega), if_neg e, hs.left w hw6, getD_eq hwU]
   ·show x.v + A[x.k] = s.v + A[x.k]
    rw [hv]
   ·show (n : Int) = lastI (take s (n : Int) A[x.k] (A.drop (x.k + 1))).c
    unfold lastI; rw [el]
   ·show x.k + 1 = (s.c ++ [(n : Int)]).length
    rw [List.length_append, hs.k]; rfl
   ·show A.drop (x.k + 1) = A.drop (s.c ++ [(n : Int)]).length
    rw [List.length_append, hs.k]; rfl
   ·rw [el] at hww
    have := Option.some.inj hww
    omega
  ·rw [if_neg hc, decide_eq_false hc]
   exact ⟨rfl, fun t ht => by cases ht⟩
theorem fol_rel {q : Q} {A : List Int} {b : Bp} (hA : AOk A) (hq : Bq q A b) : ∀ (c : List Int) {x : BS} {s : Nd}, Bs q A x s →
  (folB b x c).2 = (run (prQ q) s c).isSome ∧ ∀ t, run (prQ q) s c = some t → Bs q A (folB b x c).1 t
 | [], x, s, hs => ⟨rfl, fun t ht => by rw [← Option.some.inj ht]; exact hs⟩
 | u :: c, x, s, hs => by
  obtain ⟨h1, h2⟩ := next_rel hA hq hs u
  rw [folB_cons, Cp.run_cons]
  cases hn : next (prQ q) s u with
  | none => rw [hn] at h1; rw [h1]; exact ⟨rfl, fun t ht => by cases ht⟩
  | some t =>
   rw [hn] at h1
   have h1 : (nextB b x u).2 = true := h1
   rw [if_pos h1]
   exact fol_rel hA hq c (h2 t hn)
theorem reach_rel {q : Q} {A : List Int} {b : Bp} (hq : Bq q A b) {x : BS} {s : Nd} (hs : Bs q A x s) : min (x.v + (b.A.drop x.k).sum) b.most = reach (prQ q) s := by
 unfold Cp.reach
 rw [hq.A, hq.most, hs.v, hs.rem, hs.k]; rfl
def namesL : List ByteArray := [nameB 0, nameB 1, nameB 2, nameB 3, nameB 4, nameB 5]
def idxN (s : ByteArray) : Int := idxB (fun a => decide (s = a)) namesL 0
theorem names_ne {i j : Nat} (hi : i < 6) (hj : j < 6) (h : nameB i = nameB j) : i = j := by
 have : ∀ i j : Fin 6, nameB (i.val : Int) = nameB (j.val : Int) → i = j := by decide
 have := this ⟨i, hi⟩ ⟨j, hj⟩ h
 exact congrArg Fin.val this
theorem idxN_cases (s : ByteArray) : (idxN s = -1 ∧ ∀ u : Nat, u < 6 → s ≠ nameB u) ∨ ∃ u : Nat, u < 6 ∧ idxN s = u ∧ s = nameB u := by
 unfold idxN namesL
 simp only [idxB_cons, decide_eq_true_eq]
 by_cases h0 : s = nameB 0
 ·exact .inr ⟨0, by decide, by rw [if_pos h0]; rfl, h0⟩
 by_cases h1 : s = nameB 1
 ·exact .inr ⟨1, by decide, by rw [if_neg h0, if_pos h1]; rfl, h1⟩
 by_cases h2 : s = nameB 2
 ·exact .inr ⟨2, by decide, by rw [if_neg h0, if_neg h1, if_pos h2]; rfl, h2⟩
 by_cases h3 : s = nameB 3
 ·exact .inr ⟨3, by decide, by rw [if_neg h0, if_neg h1, if_neg h2, if_pos h3]; rfl, h3⟩
 by_cases h4 : s = nameB 4
 ·exact .inr ⟨4, by decide, by rw [if_neg h0, if_neg h1, if_neg h2, if_neg h3, if_pos h4]; rfl, h4⟩
 by_cases h5 : s = nameB 5
 ·exact .inr ⟨5, by decide, by rw [if_neg h0, if_neg h1, if_neg h2, if_neg h3, if_neg h4, if_pos h5]; rfl, h5⟩
 refine .inl ⟨by rw [if_neg h0, if_neg h1, if_neg h2, if_neg h3, if_neg h4, if_neg h5]; rfl, fun u hu e => ?_⟩
 have : u = 0 ∨ u = 1 ∨ u = 2 ∨ u = 3 ∨ u = 4 ∨ u = 5 := by omega
 rcases this with rfl | rfl | rfl | rfl | rfl | rfl
 ·exact h0 e
 ·exact h1 e
 ·exact h2 e
 ·exact h3 e
 ·exact h4 e
 ·exact h5 e
def limStep (L : List Int) (e : ByteArray × Int) : List Int := if 0 ≤ idxN e.1 then L.set (idxN e.1).toNat (min (L.getD (idxN e.1).toNat 0) e.2) else L
def big : Int := 9223372036854775807
def limB (l : List (ByteArray × Int)) : List Int := l.foldl limStep (List.replicate 6 big)
theorem limStep_len (L : List Int) (e : ByteArray × Int) : (limStep L e).length = L.length := by
 unfold limStep; split
 ·exact List.length_set
 ·rfl
theorem limStep_get {L : List Int} (hL : L.length = 6) (e : ByteArray × Int) (u : Nat) (hu : u < 6) : (limStep L e).getD u 0 = if e.1 = nameB u then min (L.getD u 0) e.2 else L.getD u 0 := by
 unfold limStep
 rcases idxN_cases e.1 with ⟨h1, h2⟩ | ⟨w, hw, h1, h2⟩
 ·rw [h1, if_neg (by decide), if_neg (h2 u hu)]
 ·rw [h1, if_pos (by omega), Int.toNat_natCast]
  by_cases q : w = u
  ·subst q
   rw [if_pos h2, getD_eq (by rw [List.length_set]; omega), List.getElem_set_self]
  ·rw [if_neg (fun k => q (names_ne hw hu (h2.symm.trans k))), getD_eq (by rw [List.length_set]; omega), List.getElem_set_ne q]
   exact (getD_eq (by omega)).symm
theorem limB_fold : ∀ (l : List (ByteArray × Int)) (L : List Int), L.length = 6 → (l.foldl limStep L).length = 6 ∧ ∀ u : Nat, u < 6 → ∀ x : Int, (x ≤ (l.foldl limStep L).getD u 0 ↔ x ≤ L.getD u 0 ∧ ∀ e ∈ l, e.1 = nameB u → x ≤ e.2)
 | [], L, h => ⟨h, fun u _ x => by simp⟩
 | e :: l, L, h => by
  rw [List.foldl_cons]
  obtain ⟨h1, h2⟩ := limB_fold l (limStep L e) (by rw [limStep_len, h])
  refine ⟨h1, fun u hu x => ?_⟩
  rw [h2 u hu x, limStep_get h e u hu]
  by_cases q : e.1 = nameB u
  ·rw [if_pos q]
   constructor
   ·rintro ⟨k1, k2⟩
    refine ⟨by omega, fun e' he' hn => ?_⟩
    rcases List.mem_cons.1 he' with rfl | he'
    ·omega
    ·exact k2 e' he' hn
   ·rintro ⟨k1, k2⟩
    have := k2 e List.mem_cons_self q
    exact ⟨by omega, fun e' he' hn => k2 e' (List.mem_cons_of_mem e he') hn⟩
  ·rw [if_neg q]
   constructor
   ·rintro ⟨k1, k2⟩
    refine ⟨k1, fun e' he' hn => ?_⟩
    rcases List.mem_cons.1 he' with rfl | he'
    ·exact absurd hn q
    ·exact k2 e' he' hn
   ·rintro ⟨k1, k2⟩
    exact ⟨k1, fun e' he' hn => k2 e' (List.mem_cons_of_mem e he') hn⟩
def nevStep (N : List Bool) (x : Int × Int) : List Bool := N.set (6 * x.1.toNat + x.2.toNat) true
def nevB (l : List (Int × Int)) : List Bool := l.foldl nevStep (List.replicate 36 false)
theorem nevB_fold : ∀ (l : List (Int × Int)) (N : List Bool), N.length = 36 → l.any badP = false → (l.foldl nevStep N).length = 36 ∧ ∀ i j : Nat, i < 6 → j < 6 → (l.foldl nevStep N).getD (6 * i + j) false = (N.getD (6 * i + j) false || hasP l ((i : Int), (j : Int)))
 | [], N, h, _ => ⟨h, fun i j _ _ => by simp [hasP]⟩
 | x :: l, N, h, hb => by
  rw [List.any_cons, Bool.or_eq_false_iff] at hb
  rw [List.foldl_cons]
  have hx : 0 ≤ x.1 ∧ x.1 < 6 ∧ 0 ≤ x.2 ∧ x.2 < 6 := by
   have := hb.1
   unfold badP at this
   rw [Bool.or_eq_false_iff, decide_eq_false_iff_not, decide_eq_false_iff_not] at this
   omega
  obtain ⟨h1, h2⟩ := nevB_fold l (nevStep N x) (by unfold nevStep; rw [List.length_set, h]) hb.2
  refine ⟨h1, fun i j hi hj => ?_⟩
  rw [h2 i j hi hj]
  have e : hasP (x :: l) ((i : Int), (j : Int)) = (decide (((i : Int), (j : Int)) = x) || hasP l ((i : Int), (j : Int))) := rfl
  rw [e, ← Bool.or_assoc]
  congr 1
  unfold nevStep
  rw [getD_eq (by rw [List.length_set]; omega), List.getElem_set, getD_eq (by omega)]
  by_cases q : ((i : Int), (j : Int)) = x
  ·subst q
   rw [if_pos (by simp), decide_eq_true rfl, Bool.or_true]
  ·rw [if_neg, decide_eq_false q, Bool.or_false]
   intro k
   apply q
   obtain ⟨a, b⟩ := x
   simp only at k hx ⊢
   have : a = (i : Int) ∧ b = (j : Int) := by omega
   rw [this.1, this.2]
def mayN (q : Q) (n : Nat) : List Bool := (List.range 6).map fun i => if i < n then bitB q.uses i else false
def bigN (n : Nat) : List Int := (List.range 6).map fun i => if i < n then big else 0
def bpOf (q : Q) (A : List Int) : Bp := ⟨A, mayN q 6, limB q.left, nevB q.never, q.most⟩
theorem bp_of {q : Q} (hv : validQ q = true) (hm : q.most ≤ 9223372036854775807) (A : List Int) : Bq q A (bpOf q A) := by
 obtain ⟨_, _, h3, _, _, h6⟩ := Cp.validQ_iff.1 hv
 obtain ⟨l1, l2⟩ := limB_fold q.left (List.replicate 6 big) (by simp)
 obtain ⟨n1, n2⟩ := nevB_fold q.never (List.replicate 36 false) (by simp) h6
 refine ⟨⟨by simp [bpOf, mayN], l1, n1, ⟨by show -9223372036854775808 ≤ q.most; omega, hm⟩⟩, rfl, fun u hu => ?_, fun u hu x h0 hx => ?_, fun i j hi hj => ?_, rfl⟩
 ·show (mayN q 6).getD u false = _
  rw [getD_eq (by simp [mayN]; omega)]
  simp [mayN, hu]
 ·show x ≤ (q.left.foldl limStep (List.replicate 6 big)).getD u 0 ↔ _
  have e : (List.replicate 6 big).getD u 0 = big := by rw [getD_eq (by simp; omega), List.getElem_replicate]
  rw [l2 u hu x, e]
  have := Cp.fold_le u q.left q.most x h0
  unfold limQ
  rw [this]
  unfold big
  constructor
  ·rintro ⟨_, k⟩; exact ⟨hx, k⟩
  ·rintro ⟨_, k⟩; exact ⟨by omega, k⟩
 ·show (q.never.foldl nevStep (List.replicate 36 false)).getD (6 * i + j) false = _
  rw [n2 i j hi hj, getD_eq (by simp; omega), List.getElem_replicate, Bool.false_or]
end Go.Proofs.Ytcnafncmfiogcaa.Bm
