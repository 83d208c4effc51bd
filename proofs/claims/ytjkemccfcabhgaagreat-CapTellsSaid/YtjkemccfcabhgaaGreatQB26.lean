/-
 Chapter 32: the reference's loads of rights, peaks, slack, greatest load and checks, walked. Conditions: lists that are not too long.
-/
import Derived.Test.YtjkemccfcabhgaaGreatQB25
namespace Go.Proofs.YtjkemccfcabhgaaGreat.Bm
open Go Go.RowKit
open Rg (Rect Pt cell)
open Cw (top)
set_option maxHeartbeats 2000000 in
theorem load_ref (p : Pn) (hp : PnOk p) (c : Cc) (hc : c.cs.length ≤ 1000000) (v : Vo) : pureCall E.P (L E) 31 [pnV p, ccV c, volR.val v] = some (.int .i64 (loadV p.ts c v)) := by
 have hrv := rightV_ref v
 have hG := region7_spec c.x c.cs hc
 rw [resL_eq] at hG
 have hpr := fun h => pn_reify p h
 have hT := traf_ref p hp v
 have hreg := polyX_reg c.cs
 have hok := regB_iff.1 hreg
 have hm := fun hb => meetsL_ok (l := lR (polyX c.cs)) (b := v.b) (fun r hr => List.all_eq_true.1 hok.1 r hr) hb
 have hF := fun (hb : okR v.b = true) (h : Heap) => form_spec (kR (polyX c.cs)) (some true) (lR (polyX c.cs)) [v.b] 1 andF (.inr (.inl ⟨rfl, rfl⟩)) (kR_ok _) Rec.ok_some (by have := hok.2.1; omega) (by simp) (reg_pos32 hreg) (box_y hb) h 0 (Nat.zero_le _)
 have hfm := fun (hb : okR v.b = true) => form_meets hreg hb
 have eV : rectR.o (some true) [v.b] = lst true [.agg ⟨[.int .i64 v.b.x0, .int .i64 v.b.y0, .int .i64 v.b.x1, .int .i64 v.b.y1]⟩] := rfl
 rw [eV] at hF
 have sl : settled depth (lst c.x (spanR.vals c.cs)) = true := rfl
 have lt : ∀ (h : Heap) (a b c d : Int), buildSliceT (some ⟨71, 4, 32, .agg ⟨[.int .i64 0, .int .i64 0, .int .i64 0, .int .i64 0]⟩, ⟨some true, some 4⟩⟩) false h 1 #[(0, .agg ⟨[.int .i64 a, .int .i64 b, .int .i64 c, .int .i64 d]⟩)] = some (lst true [.agg ⟨[.int .i64 a, .int .i64 b, .int .i64 c, .int .i64 d]⟩], h) := fun h a b c d => (build_lit' (n := 1) rfl rfl (by decide) (by decide) (by decide)).trans rfl
 unfold loadV
 generalize eR (polyX c.cs) = ee at *
 generalize lR (polyX c.cs) = ll at *
 generalize rectR.o (kR (polyX c.cs)) ll = VR at *
 rw [vol_val] at *
 rw [pureCall_fn F31 rfl]
 unfold ccV ccC pnV pnC at *
 generalize tbR.o p.kt p.ts = VL at *
 cases hr : rightV v
 ·rw [hr] at hrv
  simp -implicitDefEqProofs [r31, p31, ret0 m43, hrv]
  done
 rw [hr] at hrv
 have k := rightV_ok hr
 have ha := cells_ref v.b k.b
 have hT := hT hr
 have hF := hF k.b
 have hfm := hfm k.b
 rw [hm k.b]
 by_cases q1 : c.load < 0
 ·have q2 : ¬ c.load = 0 := by omega
  have q3 : ¬ c.load = 1 := by omega
  have q4 : ¬ c.load = 2 := by omega
  rw [if_pos rfl, if_neg q2, if_neg q3, if_neg q4, ite_self]
  simp -implicitDefEqProofs [r31, p31, ret0 m43, hrv, q1]
  done
 by_cases q5 : 3 ≤ c.load
 ·have q2 : ¬ c.load = 0 := by omega
  have q3 : ¬ c.load = 1 := by omega
  have q4 : ¬ c.load = 2 := by omega
  rw [if_pos rfl, if_neg q2, if_neg q3, if_neg q4, ite_self]
  simp -implicitDefEqProofs [r31, p31, ret0 m43, hrv, q1, q5]
  done
 by_cases he : ee = 0
 case neg =>
  rw [if_pos rfl, if_neg (fun h => he h.1)]
  simp -implicitDefEqProofs [r31, p31, ret0 m43, hrv, q1, q5, ret1 m44, hG, sl, he]
  done
 cases hmm : (ll.any fun r => Rg.meetB r v.b)
 ·have h0 := hfm.2 hmm
  rw [if_pos rfl, if_neg (fun h => absurd h.2 (by decide))]
  simp -implicitDefEqProofs [r31, p31, ret0 m43, hrv, q1, q5, ret1 m44, hG, sl, he, lt, hF, Rec.sl_len, h0]
  done
 have h0 : ¬ ((refL andF ll [v.b]).length : Int) = 0 := fun h => by
  have := hfm.1 (by omega)
  rw [hmm] at this; cases this
 have h00 : ¬ refL andF ll [v.b] = [] := fun h => h0 (by rw [h]; rfl)
 rw [if_pos rfl, if_pos ⟨he, rfl⟩]
 generalize refL andF ll [v.b] = FL at *
 by_cases c0 : c.load = 0
 ·simp -implicitDefEqProofs [r31, p31, ret0 m43, hrv, ret1 m44, hG, sl, he, lt, hF, Rec.sl_len, h00, c0]
  done
 by_cases c1 : c.load = 1
 ·simp -implicitDefEqProofs [r31, p31, ret0 m43, hrv, ret1 m44, hG, sl, he, lt, hF, Rec.sl_len, h00, c1, ret0 m46, hT, hpr]
  done
 have c2 : c.load = 2 := by omega
 simp -implicitDefEqProofs [r31, p31, ret0 m43, hrv, ret1 m44, hG, sl, he, lt, hF, Rec.sl_len, h00, c2, ret0 m47, ha]
 done
theorem liv_ref (r : Rt) (hk : Rec.Ok r.kp r.ph) : pureCall E.P (L E) 50 [rtR.val r] = some (.bool (livR r)) := by
 have ll := fun h => Rec.o_len (R := phR) (h := h) hk
 rw [rt_val, pureCall_fn F50 rfl]
 unfold livR
 generalize phR.o r.kp r.ph = V at *
 cases ho : r.over
 case true => simp -implicitDefEqProofs [r50, p50]
 by_cases h1 : 0 ≤ r.used
 case neg => simp -implicitDefEqProofs [r50, p50, h1]
 simp -implicitDefEqProofs [r50, p50, ll, h1]
def cloQ (p : Ph) : Ph := ⟨some p.vs.isEmpty, p.vs, some p.gs.isEmpty, p.gs⟩
abbrev volH (p : Ph) : Heap := lzH volR 75 p.vs
abbrev entH (p : Ph) : Heap := lzH entR 69 p.gs
def cR (b : Nat) (p : Ph) : List Value := [lz volR b p.vs, lz entR (b + (volH p).length) p.gs]
def gH (b : Nat) (p : Ph) : Heap := if p.vs = [] ∧ p.gs = [] then [] else [.cells 64 (cR b p) 0]
def rH (b : Nat) (p : Ph) : Heap := volH p ++ (entH p ++ gH b p)
def cellsP : Nat → List Ph → List Value
 | _, [] => []
 | b, p :: r => cR b p ++ cellsP (b + (rH b p).length) r
def rowsP : Nat → List Ph → Heap
 | _, [] => []
 | b, p :: r => rH b p ++ rowsP (b + (rH b p).length) r
theorem rowsP_app : ∀ (l : List Ph) (b : Nat) (p : Ph), rowsP b (l ++ [p]) = rowsP b l ++ rH (b + (rowsP b l).length) p
 | [], b, p => by simp [rowsP]
 | a :: l, b, p => by
  show rH b a ++ rowsP (b + (rH b a).length) (l ++ [p]) = rH b a ++ rowsP (b + (rH b a).length) l ++ rH (b + ((rH b a ++ rowsP (b + (rH b a).length) l).length)) p
  rw [rowsP_app l, List.append_assoc, List.length_append, Nat.add_assoc]
theorem cellsP_app : ∀ (l : List Ph) (b : Nat) (p : Ph), cellsP b (l ++ [p]) = cellsP b l ++ cR (b + (rowsP b l).length) p
 | [], b, p => by simp [cellsP, rowsP]
 | a :: l, b, p => by
  show cR b a ++ cellsP (b + (rH b a).length) (l ++ [p]) = cR b a ++ cellsP (b + (rH b a).length) l ++ cR (b + ((rH b a ++ rowsP (b + (rH b a).length) l).length)) p
  rw [cellsP_app l, List.append_assoc, List.length_append, Nat.add_assoc]
theorem cellsP_len : ∀ (l : List Ph) (b : Nat), (cellsP b l).length = l.length * 2
 | [], _ => rfl
 | a :: l, b => by
  show (cR b a ++ cellsP (b + (rH b a).length) l).length = (l.length + 1) * 2
  rw [List.length_append, cellsP_len l]
  show 2 + _ = _
  omega
theorem reify_lzA {α : Type} {R : Rec α} {t : TypeId} {h : Heap} {b n : Nat} {l : List α} (hs : szOf E.P t = some (R.m + 1)) (ha : aggT E.P t = some true) (hob : l ≠ [] → h[b]? = some (R.row t l)) : reify E.P (n + 1) h (lz R b l) = some (R.o (some l.isEmpty) l) := by
 by_cases h0 : l = []
 ·subst h0; rfl
 ·rw [lz_ne h0]
  have e : l.isEmpty = false := by cases l with | nil => exact absurd rfl h0 | cons a l => rfl
  rw [e]
  exact Rec.reify_row (hob h0) hs ha
theorem at_lzH {α : Type} {R : Rec α} {t : TypeId} {P Q : Heap} {l : List α} (h0 : l ≠ []) : (P ++ (lzH R t l ++ Q))[P.length]? = some (R.row t l) := by
 rw [lzH_ne h0]; simp
theorem reify_cR {P Q : Heap} {p : Ph} {n : Nat} : mapR E.P (n + 1) (P ++ (rH P.length p ++ Q)) (cR P.length p) = some (phC (cloQ p)) := by
 have h1 := reify_lzA (R := volR) (t := 75) (h := P ++ (rH P.length p ++ Q)) (b := P.length) (n := n) (l := p.vs) sV aV (fun h0 => by
  unfold rH
  rw [List.append_assoc]
  exact at_lzH h0)
 have h2 := reify_lzA (R := entR) (t := 69) (h := P ++ (rH P.length p ++ Q)) (b := P.length + (volH p).length) (n := n) (l := p.gs) sEn aEn (fun h0 => by
  unfold rH
  rw [List.append_assoc, ← List.append_assoc P, ← List.length_append, List.append_assoc (entH p)]
  exact at_lzH h0)
 unfold cR
 rw [mapR_cons, h1, mapR_cons, h2, mapR_nil]; rfl
theorem mapR_app {n : Nat} {h : Heap} : ∀ (a b : List Value), mapR E.P n h (a ++ b) = (mapR E.P n h a).bind fun x => (mapR E.P n h b).map (x ++ ·)
 | [], b => by rw [List.nil_append, mapR_nil, Option.bind_some]; cases mapR E.P n h b <;> rfl
 | u :: a, b => by
  rw [List.cons_append, mapR_cons, mapR_cons, mapR_app a b]
  cases reify E.P n h u with
  | none => rfl
  | some x =>
   cases mapR E.P n h a with
   | none => rfl
   | some y => cases mapR E.P n h b <;> rfl
theorem flatP_cons (p : Ph) (l : List Ph) : phR.flat (p :: l) = phC p ++ phR.flat l := rfl
theorem map_cellsP {n : Nat} : ∀ (l : List Ph) (P Q : Heap), mapR E.P (n + 1) (P ++ (rowsP P.length l ++ Q)) (cellsP P.length l) = some (phR.flat (l.map cloQ))
 | [], P, Q => rfl
 | a :: l, P, Q => by
  have h1 := reify_cR (P := P) (Q := rowsP (P.length + (rH P.length a).length) l ++ Q) (p := a) (n := n)
  have h2 := map_cellsP (n := n) l (P ++ rH P.length a) Q
  rw [List.length_append, List.append_assoc] at h2
  show mapR E.P (n + 1) (P ++ ((rH P.length a ++ rowsP (P.length + (rH P.length a).length) l) ++ Q)) (cR P.length a ++ cellsP (P.length + (rH P.length a).length) l) = _
  rw [List.append_assoc (rH P.length a), mapR_app, h1, h2, List.map_cons, flatP_cons]; rfl
theorem set_cellsP : ∀ (l : List Ph) (b : Nat), (cellsP b l).all (settled 8) = true → cellsP b l = phR.flat (l.map cloQ)
 | [], _, _ => rfl
 | a :: l, b, h => by
  have e : cellsP b (a :: l) = lz volR b a.vs :: lz entR (b + (volH a).length) a.gs :: cellsP (b + (rH b a).length) l := rfl
  rw [e] at h ⊢
  simp only [List.all_cons, Bool.and_eq_true] at h
  obtain ⟨h1, h2, h3⟩ := h
  have v0 : a.vs = [] := by
   apply Classical.byContradiction
   intro q
   rw [set_lz q] at h1; cases h1
  have g0 : a.gs = [] := by
   apply Classical.byContradiction
   intro q
   rw [set_lz q] at h2; cases h2
  rw [set_cellsP l _ h3, List.map_cons, flatP_cons, v0, g0]
  unfold cloQ phC
  rw [v0, g0]; rfl
def phObj (acc : List Ph) : AObj := .cells 64 (cellsP 1 acc) 2
def phSl (n : Nat) : Value := .slice (some ⟨0, 0, some (n * 2)⟩) n n
theorem reify_phs (l : List Ph) : reifyR E.P (phObj l :: rowsP 1 l) (phSl l.length) = some (lst false (phR.vals (l.map cloQ))) := by
 rw [reifyR_eq (by intro vs; unfold phSl; simp)]
 unfold phSl
 rw [reify_slice]
 by_cases h0 : l.length = 0
 ·obtain rfl := List.eq_nil_of_length_eq_zero h0
  rfl
 rw [if_neg h0]
 show reifyS E.P 7 _ (some (.cells 64 (cellsP 1 l) 2)) _ _ = _
 rw [reifyS_cells, sPh, Option.bind_some, if_pos ⟨by unfold stampOk; rw [cellsP_len]; simp, by decide, by rw [cellsP_len]; simp⟩]
 have e : ((cellsP 1 l).drop 0).take (l.length * 2) = cellsP 1 l := by rw [List.drop_zero, List.take_of_length_le (by rw [cellsP_len]; exact Nat.le_refl _)]
 rw [e]
 have key : reifyC E.P 7 (phObj l :: rowsP 1 l) (cellsP 1 l) = some (phR.flat (l.map cloQ)) := by
  cases hs : (cellsP 1 l).all (settled 8)
  ·rw [reifyC_map hs]
   have := map_cellsP (n := 6) l [phObj l] []
   rw [List.append_nil] at this
   exact this
  ·rw [reifyC_set hs, set_cellsP l 1 hs]
 rw [key, Option.bind_some]
 have h1 := Rec.elems (R := phR) (P := E.P) (t := 64) sPh aPh (l.map cloQ)
 rw [List.length_map] at h1
 rw [h1]; rfl
theorem app_cpA {α : Type} {R : Rec α} {el : El} {h : Heap} {lo : Nat} {st : Bool} {l : List α} {v : Value} {k : Option Bool} (hk : Rec.Ok k l) (hv : v = R.o k l) (hel : el.size = R.m + 1) (hb : l.length * el.bytes ≤ 2 ^ 47) :
  appendT (some el) h lo st (lst true []) v = some (lz R h.length l, h ++ lzH R el.e l) := by
 subst hv
 by_cases h0 : l = []
 ·subst h0
  rw [lz_nil, lzH_nil, List.append_nil, append_lst, Rec.o_cells hel hk]
  simp
 ·rw [lz_ne h0, lzH_ne h0]
  exact app_r0 hel (Rec.o_cells hel hk) h0 hb
theorem lz_build (a b : Nat) (p : Ph) : buildT (.fs ⟨[.slice none 0 0, .slice none 0 0]⟩ ⟨[(0, 1), (1, 1)]⟩) #[(0, lz volR a p.vs), (1, lz entR b p.gs)] = some (.agg ⟨[lz volR a p.vs, lz entR b p.gs]⟩) := by
 unfold lz
 split <;> split <;> rfl
theorem pair_app {acc : List Ph} {v : Ph} {T : Heap} {b : Nat} (hl : acc.length ≤ 1000) : ∃ U, buildSliceT (some elP) false (phObj acc :: T) 1 #[(0, .agg ⟨cR b v⟩)] = some (U, phObj acc :: (T ++ gH b v)) ∧
  appendT (some elP) (phObj acc :: (T ++ gH b v)) 0 false (phSl acc.length) U = some (phSl (acc.length + 1), .cells 64 (cellsP 1 acc ++ cR b v) 2 :: (T ++ gH b v)) := by
 have hap : ∀ (U : Value) (T' : Heap), sliceCells (phObj acc :: T') 2 U = some (cR b v, 1) → appendT (some elP) (phObj acc :: T') 0 false (phSl acc.length) U = some (phSl (acc.length + 1), .cells 64 (cellsP 1 acc ++ cR b v) 2 :: T') := by
  intro U T' hu
  unfold phSl
  rw [append_slice]
  show appS elP _ 0 false _ _ _ (some (phObj acc)) (sliceCells (phObj acc :: T') 2 _) = _
  rw [hu]
  have := appS_grown (el := elP) (h := phObj acc :: T') (lo := 0) (b := 0) (k := acc.length * 2) (n := acc.length) (c := acc.length) (g := 1) (m := 1) (t := 64) (row := cellsP 1 acc) (new := cR b v) (by decide) (cellsP_len acc 1).symm rfl rfl (cellsP_len acc 1).symm (Nat.le_refl _) (by show (acc.length + 1) * 48 ≤ 2 ^ 47; omega)
  have e : phObj acc = .cells 64 (cellsP 1 acc) (1 + 1) := rfl
  have e2 : (cellsP 1 acc ++ cR b v).length = (acc.length + 1) * 2 := by
   rw [List.length_append, cellsP_len]
   show _ + 2 = _
   omega
  rw [e] at this ⊢
  rw [this, e2, List.set_cons_zero]
 have e0 : ([(0, Value.agg ⟨cR b v⟩)] : List (Nat × Value)).flatMap (fun p => cellsL p.2) = cR b v := by
  show cR b v ++ [] = cR b v
  rw [List.append_nil]
 rw [build_lit' (n := 1) rfl rfl (by decide) (by decide) (by decide), if_neg (fun h => absurd h.1 (by decide))]
 by_cases q : v.vs = [] ∧ v.gs = []
 ·have eg : gH b v = [] := if_pos q
  have ec : cR b v = [lst true [], lst true []] := by unfold cR; rw [q.1, q.2]; rfl
  rw [eg, List.append_nil]
  refine ⟨lst true [.agg ⟨cR b v⟩], ?_, hap _ _ ?_⟩
  ·rw [ec]; rfl
  ·rw [ec, cells_lst (by rfl)]; rfl
 ·have eg : gH b v = [.cells 64 (cR b v) 0] := if_neg q
  have hs : (cR b v).all (settled 8) = false := by
   unfold cR
   simp only [List.all_cons, List.all_nil, Bool.and_true]
   by_cases q1 : v.vs = []
   ·rw [set_lz (fun h => q ⟨q1, h⟩), Bool.and_false]
   ·rw [set_lz q1, Bool.false_and]
  rw [eg]
  refine ⟨.slice (some ⟨(phObj acc :: T).length, 0, none⟩) 1 1, ?_, hap _ _ ?_⟩
  ·rw [e0, hs]; rfl
  ·rw [cells_slice]
   show rowS _ _ _ (phObj acc :: (T ++ [.cells 64 (cR b v) 0]))[(phObj acc :: T).length]? = _
   have e3 : (phObj acc :: (T ++ [.cells 64 (cR b v) 0]))[(phObj acc :: T).length]? = some (.cells 64 (cR b v) 0) := by simp
   rw [e3]; rfl
theorem trim_ph {acc : List Ph} {v : Ph} {vs : List Value} {n : Nat} (hn : n = (rowsP 1 acc).length + 1) : trim n vs (.cells 64 (cellsP 1 acc ++ cR n v) 2 :: (rowsP 1 acc ++ rH n v)) = .cells 64 (cellsP 1 acc ++ cR n v) 2 :: (rowsP 1 acc ++ rH n v) := by
 subst hn
 by_cases q : v.vs = [] ∧ v.gs = []
 ·have e : rH ((rowsP 1 acc).length + 1) v = [] := by
   unfold rH volH entH gH
   rw [if_pos q, q.1, q.2]; rfl
  rw [e, List.append_nil]
  exact trim_le (by simp)
 ·unfold trim
  split
  ·rfl
  rw [if_neg]
  rw [List.take_succ_cons, List.all_cons]
  have hx : belowO ((rowsP 1 acc).length + 1) (.cells 64 (cellsP 1 acc ++ cR ((rowsP 1 acc).length + 1) v) 2) = false := by
   show (cellsP 1 acc ++ cR ((rowsP 1 acc).length + 1) v).all (below 8 ((rowsP 1 acc).length + 1)) = false
   rw [List.all_append]
   have hc : (cR ((rowsP 1 acc).length + 1) v).all (below 8 ((rowsP 1 acc).length + 1)) = false := by
    unfold cR
    simp only [List.all_cons, List.all_nil, Bool.and_true]
    by_cases q1 : v.vs = []
    ·have q2 : v.gs ≠ [] := fun h => q ⟨q1, h⟩
     have e0 : (volH v).length = 0 := by unfold volH; rw [q1]; rfl
     rw [e0, Nat.add_zero, bel_lz q2, Bool.and_false]
    ·rw [bel_lz q1, Bool.false_and]
   rw [hc, Bool.and_false]
  rw [hx]; simp
set_option maxHeartbeats 2000000 in
theorem phases_ref (k : Option Bool) (l : List Ph) (hk : Rec.Ok k l) (hl : PhsOk l) : pureCall E.P (L E) 51 [phR.o k l] = some (lst false (phR.vals (l.map cloQ))) := by
 have ll := fun h => Rec.o_len (R := phR) (h := h) hk
 have il := fun (i : Nat) (hi : i < l.length) => Rec.o_index (R := phR) (s := 2) (t := 64) (kk := .i64) rfl hk hi
 have hlen := hl.len
 generalize phR.o k l = VL at *
 have rr := reify_phs l
 rw [pureCall_fn F51 rfl]
 simp -implicitDefEqProofs [r51, p51, prep_new, newK_nil sPh]
 rw [LL_for (γ := List Ph) l [] (fun i acc => [(3, phSl acc.length), (4, .int .i64 i)]) (fun _ acc => phObj acc :: rowsP 1 acc) (fun i rest acc => (.exit 0, [(3, phSl (acc.length + rest.length)), (4, undef)], phObj (acc ++ rest) :: rowsP 1 (acc ++ rest))) (fun i acc => acc.length = i) (by omega) rfl]
 ·rw [List.nil_append, List.length_nil, Nat.zero_add]
  simp -implicitDefEqProofs [k51_3, rr]
  done
 ·simp -implicitDefEqProofs [k51_3]
  rfl
 ·rfl
 ·intro nx i acc hi _
  rw [List.append_nil, List.length_nil, Nat.add_zero]
  simp -implicitDefEqProofs [r51_3, k51_3, hi, ll, trim_le]
  done
 ·intro nx i v rest acc hi hv hd hw ha ih
  have hi2 : ((i : Int) < l.length) := by omega
  have x1 := il i hi
  rw [hv, ph_val] at x1
  have hm : v ∈ l := by rw [← hv]; exact List.getElem_mem hi
  have hok := hl.ok v hm
  have hfew := hl.few v hm
  have f1 := hfew.vs; have f2 := hfew.gs
  obtain ⟨n1, hn1⟩ : ∃ n1, n1 = (rowsP 1 acc).length + 1 := ⟨_, rfl⟩
  obtain ⟨X, hX⟩ : ∃ X, X = lz volR n1 v.vs := ⟨_, rfl⟩
  obtain ⟨Y, hY⟩ : ∃ Y, Y = lz entR (n1 + (volH v).length) v.gs := ⟨_, rfl⟩
  have hXY : cR n1 v = [X, Y] := by rw [hX, hY]; rfl
  have ap1 : ∀ lo st, appendT (some elV) (phObj acc :: rowsP 1 acc) lo st (lst true []) (volR.o v.kv v.vs) = some (X, phObj acc :: (rowsP 1 acc ++ volH v)) := fun lo st => (app_cpA (R := volR) (el := elV) hok.kv rfl rfl (by show v.vs.length * 72 ≤ 2 ^ 47; omega)).trans (by rw [hX, hn1]; rfl)
  have ap2 : ∀ lo st, appendT (some elE) (phObj acc :: (rowsP 1 acc ++ volH v)) lo st (lst true []) (entR.o v.kg v.gs) = some (Y, phObj acc :: (rowsP 1 acc ++ volH v ++ entH v)) := fun lo st => (app_cpA (R := entR) (el := elE) hok.kg rfl rfl (by show v.gs.length * 24 ≤ 2 ^ 47; omega)).trans (by
   rw [hY, hn1]
   show some (lz entR ((rowsP 1 acc ++ volH v).length + 1) v.gs, phObj acc :: ((rowsP 1 acc ++ volH v) ++ entH v)) = _
   rw [List.length_append, show (rowsP 1 acc).length + (volH v).length + 1 = (rowsP 1 acc).length + 1 + (volH v).length by omega])
  have bd := lz_build n1 (n1 + (volH v).length) v
  rw [← hX, ← hY] at bd
  obtain ⟨U, lt, ap3⟩ := pair_app (acc := acc) (v := v) (T := rowsP 1 acc ++ volH v ++ entH v) (b := n1) (by omega)
  have tr := fun vs => trim_ph (acc := acc) (v := v) (vs := vs) hn1
  have eH : rowsP 1 acc ++ volH v ++ entH v ++ gH n1 v = rowsP 1 acc ++ rH n1 v := by
   unfold rH; rw [List.append_assoc, List.append_assoc]
  rw [eH] at lt ap3
  rw [hXY] at tr lt ap3
  have eN : (phObj acc :: rowsP 1 acc).length = n1 := by rw [hn1]; rfl
  have li1 : ∀ h lv, buildSliceT (some elV) lv h 0 ⟨[]⟩ = some (lst true [], h) := fun h lv => by cases lv <;> exact build_none'.trans rfl
  have li2 : ∀ h lv, buildSliceT (some elE) lv h 0 ⟨[]⟩ = some (lst true [], h) := fun h lv => by cases lv <;> exact build_none'.trans rfl
  have ih := ih (acc ++ [v]) (by rw [List.length_append, ha]; rfl)
  have eo : phObj (acc ++ [v]) = .cells 64 (cellsP 1 acc ++ [X, Y]) 2 := by
   unfold phObj
   rw [cellsP_app, show 1 + (rowsP 1 acc).length = n1 by omega, hXY]
  rw [eo, rowsP_app, show (acc ++ [v]).length = acc.length + 1 by simp, show 1 + (rowsP 1 acc).length = n1 by omega] at ih
  rw [show (v :: rest).length = rest.length + 1 from rfl, show acc ++ v :: rest = (acc ++ [v]) ++ rest by simp, show acc.length + (rest.length + 1) = acc.length + 1 + rest.length by omega]
  rw [eN]
  have ff1 : ∀ sz, fitsTT ⟨some false, sz⟩ (volR.o v.kv v.vs) = true := fun _ => Rec.o_fits
  have ff2 : ∀ sz, fitsTT ⟨some false, sz⟩ (entR.o v.kg v.gs) = true := fun _ => Rec.o_fits
  clear hX hY eH
  generalize rowsP 1 acc ++ rH n1 v = T2 at *
  generalize rowsP 1 acc ++ volH v ++ entH v = T1 at *
  generalize rowsP 1 acc ++ volH v = T0 at *
  generalize volR.o v.kv v.vs = V1 at *
  generalize entR.o v.kg v.gs = V2 at *
  simp -implicitDefEqProofs [k51_3, -List.append_assoc] at ih
  simp -implicitDefEqProofs [r51_3, k51_3, hi2, ll, x1, prep_still, rop_loadT, isCp_cptr, ff1, ff2, li1, li2, ap1, ap2, bd, lt, ap3, hw, tr, -append_lst, -List.append_assoc]
  with_reducible exact ih
end Go.Proofs.YtjkemccfcabhgaaGreat.Bm
namespace Go.Proofs.YtjkemccfcabhgaaGreat.Bm
open Go Go.RowKit
open Rg (Rect Pt cell)
open Cw (top pre limited nam nam_cons nam_nil limited_in IsMax max_unique stp stp_len)
theorem cloQ_ok {p : Ph} : PhOk (cloQ p) := ⟨Rec.ok_some, Rec.ok_some⟩
theorem cloQ_few {p : Ph} (h : PhFew p) : PhFew (cloQ p) := ⟨h.vs, h.gs⟩
theorem kL_okQ (r : Rt) : Rec.Ok (kL r) ((leftR r).map cloQ) := by
 unfold kL leftR
 cases livR r
 ·exact fun _ => rfl
 ·exact Rec.ok_some
theorem left_ref (r : Rt) (hr : RtFew r) : pureCall E.P (L E) 34 [rtR.val r] = some (phR.o (kL r) ((leftR r).map cloQ)) := by
 have hl := liv_ref r hr.kp
 have hrr := fun h => rt_reify r h
 rw [rt_val] at hl hrr ⊢
 rw [pureCall_fn F34 rfl]
 unfold kL leftR
 cases h : livR r
 ·rw [h] at hl
  generalize phR.o r.kp r.ph = V at *
  simp -implicitDefEqProofs [r34, p34, ret0 m50, hl, hrr]
  rfl
 ·rw [h] at hl
  have hu : 0 ≤ r.used ∧ r.used < r.ph.length := by
   unfold livR at h
   simp only [Bool.and_eq_true, decide_eq_true_eq] at h
   exact h.2
  obtain ⟨x, hx⟩ : ∃ x, r.kp = some x := by
   cases hk : r.kp with
   | none => have := hr.kp hk; rw [this] at hu; simp at hu; omega
   | some x => exact ⟨x, rfl⟩
  have dr := fun h => rec_drop (R := phR) (x := x) (t := 64) (g := some true) (h := h) (l := r.ph) (n := r.used.toNat) (k := .i64) (s := 2) (by omega) rfl
  rw [Int.toNat_of_nonneg hu.1] at dr
  have hp := phases_ref (some x) (r.ph.drop r.used.toNat) Rec.ok_some (hr.ph.drop _)
  have e1 : phR.o r.kp r.ph = lst x (phR.vals r.ph) := by rw [hx]; rfl
  have e2 : phR.o (some x) (r.ph.drop r.used.toNat) = lst x (phR.vals (r.ph.drop r.used.toNat)) := rfl
  have s1 : settled depth (lst x (phR.vals (r.ph.drop r.used.toNat))) = true := rfl
  rw [← e1] at dr
  rw [e2] at hp
  generalize lst x (phR.vals (r.ph.drop r.used.toNat)) = W at *
  generalize phR.o r.kp r.ph = V at *
  simp -implicitDefEqProofs [r34, p34, ret0 m50, hl, hrr, dr, ret1 m51, hp, s1]
  rfl
theorem limited_ref (n : Int) : pureCall E.P (L E) 18 [.int .i64 n] = some (.int .i64 (limited n)) := by
 have e : max (-1099511627776) (min n 1099511627776) = limited n := by unfold limited; omega
 rw [pureCall_fn F18 rfl, ← e]
 simp -implicitDefEqProofs [r18, p18, max_int, min_int]
theorem peak31_ref (k : Option Bool) (l : List Int) (hk : Enc.Ok k l) (hl : Small l) : pureCall E.P (L E) 28 [intE.o k l] = some (.int .i64 (top l)) := by
 have ll := fun h => Enc.o_len (O := intE) (h := h) hk
 have il := fun (i : Nat) (hi : i < l.length) => Enc.index_o (O := intE) (t := 3) (k := .i64) hk hi
 have hlen := hl.len
 rw [← max_top]
 generalize intE.o k l = VL at *
 rw [pureCall_fn F28 rfl]
 simp -implicitDefEqProofs [r28, p28]
 rw [LL_for (γ := Int × Int) l (0, 0) (fun i a => [(3, .int .i64 a.2), (4, .int .i64 a.1), (5, .int .i64 i)]) (fun _ _ => []) (fun i rest a => (.exit 0, [(3, .int .i64 (maxF a.2 (pre a.1 rest))), (4, undef), (5, undef)], [])) (fun i a => bndP a.1 i) (by omega) (by unfold bndP; omega)]
 ·simp -implicitDefEqProofs [k28_4]
 ·simp -implicitDefEqProofs [k28_4]
 ·rfl
 ·intro nx i a hi _
  have e1 : maxF a.2 (pre a.1 []) = a.2 := rfl
  rw [e1]
  simp -implicitDefEqProofs [r28_4, k28_4, hi, ll, trim_le]
  done
 ·intro nx i v rest a hi hv hd hw ha ih
  obtain ⟨n, m⟩ := a
  have hi2 : ((i : Int) < l.length) := by omega
  have x1 := il i hi
  rw [hv, iE] at x1
  have hm : v ∈ l := by rw [← hv]; exact List.getElem_mem hi
  have hb := bndP_le ha (by omega)
  have hv1 := hl.lo v hm
  have hv2 := hl.hi v hm
  have ew : IntKind.i64.wrap (n + v) = n + v := wrap64 (by omega) (by omega)
  have ih := ih (n + v, max m (n + v)) (bndP_step ha hv1 hv2)
  rw [pre_cons, maxF_cons]
  dsimp only at ih ⊢
  generalize maxF (max m (n + v)) (pre (n + v) rest) = M at *
  simp -implicitDefEqProofs [k28_4] at ih
  simp -implicitDefEqProofs [r28_4, k28_4, hi2, ll, x1, ew, max_int, hw, trim_le]
  with_reducible exact ih
set_option maxHeartbeats 2000000 in
theorem phase_ref (p : Pn) (hp : PnOk p) (c : Cc) (hc : c.cs.length ≤ 1000000) (f : Ph) (hf : PhOk f) (hw : PhFew f) : pureCall E.P (L E) 20 [pnV p, ccV c, phR.val f] = some (.int .i64 (phaseL p.ts c f)) := by
 have hld := load_ref p hp c hc
 have hpr := fun h => pn_reify p h
 have ll := fun h => Rec.o_len (R := volR) (h := h) hf.kv
 have il := fun (i : Nat) (hi : i < f.vs.length) => Rec.o_index (R := volR) (s := 9) (t := 75) (kk := .i64) rfl hf.kv hi
 have lg := fun h => Rec.o_len (R := entR) (h := h) hf.kg
 have ig := fun (i : Nat) (hi : i < f.gs.length) => oe_ld f.kg f.gs i hf.kg hi
 have sl : settled depth (lst c.x (spanR.vals c.cs)) = true := rfl
 have ccs : ∀ h, reify E.P 8 h (ccV c) = some (ccV c) := fun h => rfl
 have b1 : ∀ d n, below (d + 1) n (tbR.o p.kt p.ts) = true := fun d n => Rec.o_bel
 have b2 : ∀ d n, below (d + 1) n (volR.o f.kv f.vs) = true := fun d n => Rec.o_bel
 have b3 : ∀ d n, below (d + 1) n (entR.o f.kg f.gs) = true := fun d n => Rec.o_bel
 have ob : ∀ d n o, below (d + 1) n (opV o) = true := fun d n o => op_bel
 have hlb := hw.vs
 have hlg := hw.gs
 have hsum := sumV_in' p.ts c (l := f.vs) hlb
 have hlt : phaseL p.ts c f = sumV p.ts c f.vs - nam c.nm f.gs := rfl
 have ev : phR.val f = .agg ⟨[volR.o f.kv f.vs, entR.o f.kg f.gs]⟩ := rfl
 rw [hlt, pureCall_fn F20 rfl, ev]
 unfold ccV ccC pnV pnC at *
 generalize tbR.o p.kt p.ts = VT at *
 generalize volR.o f.kv f.vs = VB at *
 generalize entR.o f.kg f.gs = VE at *
 simp -implicitDefEqProofs [r20, p20]
 rw [LL_for (γ := Int) f.vs 0 (fun i z => [(7, .int .i64 z), (8, .int .i64 i)]) (fun _ _ => [pnO p VT, ccO c, phO VB VE]) (fun i rest z => (.exit 0, [(7, .int .i64 (z + sumV p.ts c rest)), (8, undef)], [pnO p VT, ccO c, phO VB VE])) (fun i z => bndT 0 z i) (by omega) bndT_zero]
 ·rw [Int.zero_add]
  generalize sumV p.ts c f.vs = s0 at *
  unfold ccO pnO phO
  simp -implicitDefEqProofs [k20_3]
  rw [LL_for (γ := Int) f.gs s0 (fun i z => [(7, .int .i64 z), (9, .int .i64 i)]) (fun _ _ => [pnO p VT, ccO c, phO VB VE]) (fun i rest z => (.exit 2, [(7, .int .i64 (z - nam c.nm rest)), (9, undef)], [pnO p VT, ccO c, phO VB VE])) (fun i z => bndS (z - s0) i) (by omega) (by rw [Int.sub_self]; exact bndS_zero)]
  ·unfold ccO pnO phO
   simp -implicitDefEqProofs [k20_7]
   done
  ·simp -implicitDefEqProofs [k20_7]
  ·rfl
  ·intro nx i z hi _
   rw [nam_nil, Int.sub_zero]
   unfold ccO pnO phO
   simp -implicitDefEqProofs [r20_7, k20_7, hi, lg, trim_le]
   done
  ·intro nx i v rest z hi hv hd hw hz ih
   have hi2 : ((i : Int) < f.gs.length) := by omega
   have x1 := ig i hi
   rw [hv] at x1
   have hb := bndS_le hz (by omega)
   have hlim := limited_in v.2
   have hs := limited_ref v.2
   rw [nam_cons]
   unfold ccO pnO phO at *
   by_cases he : v.1 = c.nm
   ·have ih := ih (z - limited v.2) (by have := bndS_step hz (w := -limited v.2) (by omega); rwa [show z - s0 + -limited v.2 = z - limited v.2 - s0 by omega] at this)
    have e1 : IntKind.i64.wrap (z - limited v.2) = z - limited v.2 := wrap64 (by omega) (by omega)
    simp -implicitDefEqProofs [k20_7] at ih
    rw [if_pos he, show z - (limited v.2 + nam c.nm rest) = z - limited v.2 - nam c.nm rest by omega]
    simp -implicitDefEqProofs [r20_7, k20_7, hi2, lg, x1, he, ret0 m18, hs, e1, hw, trim_le]
    with_reducible exact ih
   ·have ih := ih z (by have := bndS_step hz (w := 0) (by omega); rwa [Int.add_zero] at this)
    simp -implicitDefEqProofs [k20_7] at ih
    rw [if_neg he, Int.zero_add]
    simp -implicitDefEqProofs [r20_7, k20_7, hi2, lg, x1, he, hw, trim_le]
    with_reducible exact ih
 ·simp -implicitDefEqProofs [k20_3]
 ·rfl
 ·intro nx i z hi _
  have e : sumV p.ts c [] = 0 := rfl
  rw [e, Int.add_zero]
  unfold ccO pnO phO
  simp -implicitDefEqProofs [r20_3, k20_3, hi, ll, trim_le]
  done
 ·intro nx i v rest z hi hv hd hw hz ih
  have hi2 : ((i : Int) < f.vs.length) := by omega
  have x1 := il i hi
  rw [hv, vol_val] at x1
  have hb := bndT_le hz (by omega) (by omega)
  have hin := loadV_in p.ts c v
  have hs := hld v
  rw [vol_val] at hs
  have ih := ih (z + loadV p.ts c v) (bndT_step hz hin)
  have e1 : IntKind.i64.wrap (z + loadV p.ts c v) = z + loadV p.ts c v := wrap64 (by omega) (by omega)
  rw [sumV_cons, ← Int.add_assoc]
  unfold ccO pnO phO at *
  generalize loadV p.ts c v = w at *
  simp -implicitDefEqProofs [k20_3] at ih
  simp -implicitDefEqProofs [r20_3, k20_3, hi2, ll, x1, ret0 m31, hs, hpr, e1, hw, trim_le]
  with_reducible exact ih
set_option maxHeartbeats 2000000 in
theorem loadT_ref (t : Tw) (ht : TwFew t) (c : Cc) (hc : c.cs.length ≤ 1000000) : pureCall E.P (L E) 11 [twV t, ccV c] = some (.int .i64 (loadT32 t c)) := by
 have hld := load_ref t.p ht.p c hc
 have hpr := fun h => pn_reify t.p h
 have ll := fun h => Rec.o_len (R := pdR) (h := h) ht.kb
 have il := fun (i : Nat) (hi : i < t.bs.length) => Rec.o_index (R := pdR) (s := 10) (t := 78) (kk := .i64) rfl ht.kb hi
 have lg := fun h => Rec.o_len (R := entR) (h := h) ht.ke
 have ig := fun (i : Nat) (hi : i < t.es.length) => oe_ld t.ke t.es i ht.ke hi
 have sl : settled depth (lst c.x (spanR.vals c.cs)) = true := rfl
 have hn := nam_in' c.nm ht.le
 have hlb := ht.lb
 have hle := ht.le
 have hlt : loadT32 t c = nam c.nm t.es + sumV t.p.ts c (t.bs.map (·.v)) := rfl
 rw [hlt, pureCall_fn F11 rfl]
 unfold twV twC ccV ccC pnV pnC at *
 generalize tbR.o t.p.kt t.p.ts = VT at *
 generalize pdR.o t.kb t.bs = VB at *
 generalize entR.o t.ke t.es = VE at *
 simp -implicitDefEqProofs [r11, p11]
 rw [LL_for (γ := Int) t.es 0 (fun i z => [(5, .int .i64 z), (6, .int .i64 i)]) (fun _ _ => [twO t VT VB VE, ccO c]) (fun i rest z => (.exit 0, [(5, .int .i64 (z + nam c.nm rest)), (6, undef)], [twO t VT VB VE, ccO c])) (fun i z => bndS z i) (by omega) bndS_zero]
 ·rw [Int.zero_add]
  generalize nam c.nm t.es = n0 at *
  unfold ccO twO
  simp -implicitDefEqProofs [k11_3, -List.map_map]
  rw [LL_for (γ := Int) t.bs n0 (fun i z => [(5, .int .i64 z), (7, .int .i64 i)]) (fun _ _ => [twO t VT VB VE, ccO c]) (fun i rest z => (.exit 2, [(5, .int .i64 (z + sumV t.p.ts c (rest.map (·.v)))), (7, undef)], [twO t VT VB VE, ccO c])) (fun i z => bndT n0 z i) (by omega) bndT_zero]
  ·unfold ccO twO
   simp -implicitDefEqProofs [k11_8, -List.map_map]
   done
  ·simp -implicitDefEqProofs [k11_8]
  ·rfl
  ·intro nx i z hi _
   have e : sumV t.p.ts c ([].map fun (x : Pd) => x.v) = 0 := rfl
   rw [e, Int.add_zero]
   unfold ccO twO
   simp -implicitDefEqProofs [r11_8, k11_8, hi, ll, trim_le]
   done
  ·intro nx i v rest z hi hv hd hw hz ih
   have hi2 : ((i : Int) < t.bs.length) := by omega
   have x1 := il i hi
   rw [hv, pd_val] at x1
   have hb := bndT_le hz (by omega) hn
   have hin := loadV_in t.p.ts c v.v
   have hs := hld v.v
   rw [vol_val] at hs
   have ih := ih (z + loadV t.p.ts c v.v) (bndT_step hz hin)
   have e1 : IntKind.i64.wrap (z + loadV t.p.ts c v.v) = z + loadV t.p.ts c v.v := wrap64 (by omega) (by omega)
   rw [List.map_cons, sumV_cons, ← Int.add_assoc]
   unfold ccO twO at *
   generalize loadV t.p.ts c v.v = w at *
   simp -implicitDefEqProofs [k11_8, -List.map_map] at ih
   simp -implicitDefEqProofs [r11_8, k11_8, hi2, ll, x1, ret0 m31, hs, hpr, e1, hw, trim_le, -List.map_map]
   with_reducible exact ih
 ·simp -implicitDefEqProofs [k11_3]
 ·rfl
 ·intro nx i z hi _
  rw [nam_nil, Int.add_zero]
  unfold ccO twO
  simp -implicitDefEqProofs [r11_3, k11_3, hi, lg, trim_le]
  done
 ·intro nx i v rest z hi hv hd hw hz ih
  have hi2 : ((i : Int) < t.es.length) := by omega
  have x1 := ig i hi
  rw [hv] at x1
  have hb := bndS_le hz (by omega)
  have hlim := limited_in v.2
  have hs := limited_ref v.2
  rw [nam_cons]
  unfold ccO twO at *
  by_cases he : v.1 = c.nm
  ·have ih := ih (z + limited v.2) (bndS_step hz hlim)
   have e1 : IntKind.i64.wrap (z + limited v.2) = z + limited v.2 := wrap64 (by omega) (by omega)
   simp -implicitDefEqProofs [k11_3] at ih
   rw [if_pos he, ← Int.add_assoc]
   simp -implicitDefEqProofs [r11_3, k11_3, hi2, lg, x1, he, ret0 m18, hs, e1, hw, trim_le]
   with_reducible exact ih
  ·have ih := ih z (by have := bndS_step hz (w := 0) (by omega); rwa [Int.add_zero] at this)
   simp -implicitDefEqProofs [k11_3] at ih
   rw [if_neg he, Int.zero_add]
   simp -implicitDefEqProofs [r11_3, k11_3, hi2, lg, x1, he, hw, trim_le]
   with_reducible exact ih
end Go.Proofs.YtjkemccfcabhgaaGreat.Bm
namespace Go.Proofs.YtjkemccfcabhgaaGreat.Bm
open Go Go.RowKit
open Rg (Rect Pt cell)
open Cw (top pre IsMax max_unique stp stp_len)
theorem leftQ_ok {r : Rt} (hr : RtFew r) : PhsOk ((leftR r).map cloQ) := by
 have k : PhsOk (leftR r) := by
  unfold leftR
  split
  ·exact hr.ph.drop _
  ·exact ⟨fun p hp => absurd hp (by simp), fun p hp => absurd hp (by simp), by simp⟩
 exact ⟨fun p hp => by obtain ⟨q, hq, rfl⟩ := List.mem_map.1 hp; exact cloQ_ok, fun p hp => by obtain ⟨q, hq, rfl⟩ := List.mem_map.1 hp; exact cloQ_few (k.few q hq), by rw [List.length_map]; exact k.len⟩
set_option maxHeartbeats 4000000 in
theorem loads_ref (p : Pn) (hp : PnOk p) (c : Cc) (hc : c.cs.length ≤ 1000000) (r : Rt) (hr : RtFew r) : pureCall E.P (L E) 25 [pnV p, ccV c, rtR.val r] = some (lst false (intE.vals (loadsR p.ts c r))) := by
 have hleft := left_ref r hr
 have hlo := leftQ_ok hr
 have hlk := kL_okQ r
 have hpr := fun h => pn_reify p h
 have hph := phase_ref p hp c hc
 have e : loadsR p.ts c r = ((leftR r).map cloQ).map (phaseL p.ts c) := by
  unfold loadsR
  rw [List.map_map]; rfl
 have sr : settled depth (rtR.val r) = true := rtC_set r 6
 have sc : settled depth (lst c.x (spanR.vals c.cs)) = true := rfl
 rw [e]
 generalize (leftR r).map cloQ = l at *
 have ll := fun h => Rec.o_len (R := phR) (h := h) hlk
 have il := fun (i : Nat) (hi : i < l.length) => Rec.o_index (R := phR) (s := 2) (t := 64) (kk := .i64) rfl hlk hi
 have hlen := hlo.len
 rw [rt_val] at *
 rw [pureCall_fn F25 rfl]
 unfold ccV ccC pnV pnC at *
 generalize tbR.o p.kt p.ts = VT at *
 generalize phR.o r.kp r.ph = VP at *
 generalize phR.o (kL r) l = VL at *
 simp -implicitDefEqProofs [r25, p25, prep_new, newK_nil sI, ret1 m34, hleft, sr]
 rw [LL_for (γ := List Int) l [] (fun i acc => [(8, Enc.sl 3 acc), (9, .int .i64 i)]) (fun _ acc => [pnO p VT, ccO c, rtO r VP, intE.row 3 acc]) (fun i rest acc => (.exit 0, [(8, Enc.sl 3 (acc ++ rest.map (phaseL p.ts c))), (9, undef)], [pnO p VT, ccO c, rtO r VP, intE.row 3 (acc ++ rest.map (phaseL p.ts c))])) (fun i acc => acc.length = i) (by omega) rfl]
 ·have rr := Enc.reifyR_sl (O := intE) (P := E.P) (h := [pnO p VT, ccO c, rtO r VP, intE.row 3 (l.map (phaseL p.ts c))]) (b := 3) (t := 3) (l := l.map (phaseL p.ts c)) rfl sI aI
  generalize l.map (phaseL p.ts c) = W at *
  simp -implicitDefEqProofs [k25_4, rr]
 ·simp -implicitDefEqProofs [k25_4, Enc.sl]
 ·rfl
 ·intro nx i acc hi _
  rw [List.map_nil, List.append_nil]
  unfold pnO ccO rtO
  simp -implicitDefEqProofs [r25_4, k25_4, hi, ll, trim_le]
  done
 ·intro nx i v rest acc hi hv hd hw ha ih
  have hi2 : ((i : Int) < l.length) := by omega
  have x1 := il i hi
  have hm : v ∈ l := by rw [← hv]; exact List.getElem_mem hi
  have hs := hph v (hlo.ok v hm) (hlo.few v hm)
  have hvr := fun h => ph_reify v h
  rw [hv] at x1
  rw [ph_val] at x1 hs hvr
  have lt := fun h => lit_int h (phaseL p.ts c v)
  have ap := fun h (hob : h[3]? = some (intE.row 3 acc)) => Enc.app (O := intE) (el := elI) (h := h) (b := 3) (lo := 0) (l := acc) (m := [phaseL p.ts c v]) (u := lst true (intE.vals [phaseL p.ts c v])) rfl hob Enc.cells_tree (Nat.zero_le _) (by show (acc.length + 1) * 8 ≤ 2 ^ 47; omega)
  have ih := ih (acc ++ [phaseL p.ts c v]) (by rw [List.length_append, ha]; rfl)
  rw [List.map_cons, show acc ++ phaseL p.ts c v :: rest.map (phaseL p.ts c) = (acc ++ [phaseL p.ts c v]) ++ rest.map (phaseL p.ts c) by simp]
  generalize volR.o v.kv v.vs = V1 at *
  generalize entR.o v.kg v.gs = V2 at *
  generalize phaseL p.ts c v = z at *
  unfold pnO ccO rtO at *
  simp -implicitDefEqProofs [k25_4, -List.append_assoc] at ih
  simp -implicitDefEqProofs [r25_4, k25_4, hi2, ll, x1, ret0 m20, hs, hpr, hvr, lt, ap, hw, trim_le, -List.append_assoc]
  with_reducible exact ih
set_option maxHeartbeats 4000000 in
theorem peak_ref (t : Tw) (ht : TwFew t) (c : Cc) (hc : c.cs.length ≤ 1000000) (k : Option Bool) (l : List Rt) (hl : RsFew k l) : pureCall E.P (L E) 9 [twV t, rtR.o k l, ccV c] = some (pkV ⟨c.nm, loadT32 t c, some false, l.map (topR t.p.ts c)⟩) := by
 have hload := loadT_ref t ht c hc
 have htr := fun h => tw_reify t h
 have hls := loads_ref t.p ht.p c hc
 have ll := fun h => Rec.o_len (R := rtR) (h := h) hl.k
 have il := fun (i : Nat) (hi : i < l.length) => Rec.o_index (R := rtR) (s := 7) (t := 60) (kk := .i64) rfl hl.k hi
 have sp := pn_settled t.p
 have sc : settled depth (lst c.x (spanR.vals c.cs)) = true := rfl
 have scc : settled depth (ccV c) = true := rfl
 have pb := pk_build c.nm (loadT32 t c)
 have hlen := hl.len
 have eR : ∀ W : List Int, pkV ⟨c.nm, loadT32 t c, some false, W⟩ = .agg ⟨[.string c.nm, .int .i64 (loadT32 t c), lst false (intE.vals W)]⟩ := fun W => rfl
 rw [eR]
 rw [pureCall_fn F9 rfl]
 unfold ccV ccC twV twC pnV pnC at *
 generalize tbR.o t.p.kt t.p.ts = VT at *
 generalize pdR.o t.kb t.bs = VB at *
 generalize entR.o t.ke t.es = VE at *
 generalize rtR.o k l = VL at *
 generalize loadT32 t c = n0 at *
 simp -implicitDefEqProofs [r9, p9, ret0 m11, hload, htr, pb, prep_newc, newcK, isNil, sI]
 rw [LL_for (γ := List Int) l [] (fun i acc => [(8, .int .i64 i)]) (fun _ acc => [twO t VT VB VE, ccO c, pkZ, pkO c.nm n0 acc, intE.row 3 acc]) (fun i rest acc => (.exit 0, [(8, undef)], [twO t VT VB VE, ccO c, pkZ, pkO c.nm n0 (acc ++ rest.map (topR t.p.ts c)), intE.row 3 (acc ++ rest.map (topR t.p.ts c))])) (fun i acc => acc.length = i) (by omega) rfl]
 ·have rr := fun n => Enc.reify_sl (O := intE) (P := E.P) (d := n) (h := [twO t VT VB VE, ccO c, .cells 44 [.string c.nm, .int .i64 n0, Enc.sl 4 (l.map (topR t.p.ts c))] 0, pkO c.nm n0 (l.map (topR t.p.ts c)), intE.row 3 (l.map (topR t.p.ts c))]) (b := 4) (t := 3) (l := l.map (topR t.p.ts c)) rfl sI aI
  have ss : ∀ n, settled (n + 1) (Enc.sl 4 (l.map (topR t.p.ts c))) = false := fun n => rfl
  generalize l.map (topR t.p.ts c) = W at *
  unfold pkO pkZ at *
  simp -implicitDefEqProofs [k9_3, rr, ss, reifyC_map]
  done
 ·simp -implicitDefEqProofs [k9_3]
 ·rfl
 ·intro nx i acc hi _
  rw [List.map_nil, List.append_nil]
  unfold pkO pkZ twO ccO
  simp -implicitDefEqProofs [r9_3, k9_3, hi, ll, trim_le]
  done
 ·intro nx i v rest acc hi hv hd hw ha ih
  have hi2 : ((i : Int) < l.length) := by omega
  have x1 := il i hi
  have hm : v ∈ l := by rw [← hv]; exact List.getElem_mem hi
  have hs := hls v (hl.r v hm)
  have htp := peak31_ref (some false) (loadsR t.p.ts c v) Enc.ok_some (loadsR_small t.p.ts c (hl.r v hm))
  have eI : intE.o (some false) (loadsR t.p.ts c v) = lst false (intE.vals (loadsR t.p.ts c v)) := rfl
  rw [eI] at htp
  have eT : top (loadsR t.p.ts c v) = topR t.p.ts c v := rfl
  rw [eT] at htp
  have hvs := rt_settled v
  rw [hv] at x1
  rw [rt_val] at x1 hs hvs
  have r6 : ∀ h, reify E.P 8 h (lst false (intE.vals (loadsR t.p.ts c v))) = some (lst false (intE.vals (loadsR t.p.ts c v))) := fun h => Enc.o_reify (O := intE) (k := some false)
  have co : ∀ W : List Int, cellsOf (Enc.sl 4 W) = some [Enc.sl 4 W] := fun _ => rfl
  have lt := fun h => lit_int h (topR t.p.ts c v)
  have ap := fun h (hob : h[4]? = some (intE.row 3 acc)) => Enc.app (O := intE) (el := elI) (h := h) (b := 4) (lo := 0) (l := acc) (m := [topR t.p.ts c v]) (u := lst true (intE.vals [topR t.p.ts c v])) rfl hob Enc.cells_tree (Nat.zero_le _) (by show (acc.length + 1) * 8 ≤ 2 ^ 47; omega)
  have ih := ih (acc ++ [topR t.p.ts c v]) (by rw [List.length_append, ha]; rfl)
  rw [List.map_cons, show acc ++ topR t.p.ts c v :: rest.map (topR t.p.ts c) = (acc ++ [topR t.p.ts c v]) ++ rest.map (topR t.p.ts c) by simp]
  generalize phR.o v.kp v.ph = V1 at *
  generalize lst false (intE.vals (loadsR t.p.ts c v)) = V2 at *
  generalize topR t.p.ts c v = z at *
  unfold pkO pkZ twO ccO at *
  simp -implicitDefEqProofs [k9_3, -List.append_assoc] at ih
  simp -implicitDefEqProofs [r9_3, k9_3, hi2, ll, x1, ret1 m25, hs, sp, scc, hvs, ret0 m28, htp, r6, lt, ap, hw, trim_le, co, -List.append_assoc]
  with_reducible exact ih
set_option maxHeartbeats 4000000 in
theorem slack_ref (t : Tw) (ht : TwFew t) (c : Cc) (hc : c.cs.length ≤ 1000000) (k : Option Bool) (l : List Rt) (hl : RsFew k l) : pureCall E.P (L E) 14 [twV t, rtR.o k l, ccV c] = some (.int .i64 (slackW c.lim (loadT32 t c) (topsR t c l))) := by
 have hpk := peak_ref t ht c hc k l hl
 have eT : l.map (topR t.p.ts c) = topsR t c l := rfl
 have eR : ∀ W : List Int, pkV ⟨c.nm, loadT32 t c, some false, W⟩ = .agg ⟨[.string c.nm, .int .i64 (loadT32 t c), intE.o (some false) W]⟩ := fun W => rfl
 rw [eT, eR] at hpk
 have hlen : (topsR t c l).length ≤ 1000 := by unfold topsR; rw [List.length_map]; exact hl.len
 have ll := fun h => Enc.o_len (O := intE) (h := h) (k := some false) (l := topsR t c l) Enc.ok_some
 have il := fun (i : Nat) (hi : i < (topsR t c l).length) => Enc.index_o (O := intE) (t := 3) (k := .i64) (x := some false) (l := topsR t c l) Enc.ok_some hi
 have st : settled depth (twV t) = true := twC_set t 6
 have sc : settled depth (ccV c) = true := rfl
 have sr : settled depth (rtR.o k l) = true := Rec.o_set
 unfold slackW
 rw [pureCall_fn F14 rfl]
 unfold ccV ccC twV twC at *
 generalize tbR.o t.p.kt t.p.ts = VT at *
 generalize pdR.o t.kb t.bs = VB at *
 generalize entR.o t.ke t.es = VE at *
 generalize rtR.o k l = VL at *
 generalize loadT32 t c = n0 at *
 generalize topsR t c l = W at *
 generalize intE.o (some false) W = VW at *
 simp -implicitDefEqProofs [r14, p14, ret1 m9, hpk, st, sc, sr]
 rw [LL_for (γ := Int) W (IntKind.i64.wrap (c.lim - n0)) (fun i z => [(8, .int .i64 z), (9, .int .i64 i)]) (fun _ _ => [twO t VT VB VE, ccO c, pkF c.nm n0 VW]) (fun i rest z => (.exit 0, [(8, .int .i64 (subW z rest)), (9, undef)], [twO t VT VB VE, ccO c, pkF c.nm n0 VW])) (fun _ _ => True) (by omega) trivial]
 ·simp -implicitDefEqProofs [k14_4]
 ·simp -implicitDefEqProofs [k14_4]
 ·rfl
 ·intro nx i z hi _
  have e : subW z [] = z := rfl
  rw [e]
  unfold pkF twO ccO
  simp -implicitDefEqProofs [r14_4, k14_4, hi, ll, trim_le]
  done
 ·intro nx i v rest z hi hv hd hw _ ih
  have ih := ih (IntKind.i64.wrap (z - v)) trivial
  have hi2 : ((i : Int) < W.length) := by omega
  have x1 := il i hi
  rw [hv] at x1
  rw [subW_cons]
  unfold pkF twO ccO at *
  simp -implicitDefEqProofs [k14_4] at ih
  simp -implicitDefEqProofs [r14_4, k14_4, hi2, ll, x1, iE, hw, trim_le]
  with_reducible exact ih
theorem same_ref (a b : Pk) (ha : Enc.Ok a.kt a.tops) (hb : Enc.Ok b.kt b.tops) (hl : a.tops.length ≤ 9223372036854775807) : pureCall E.P (L E) 12 [pkV a, pkV b] = some (.bool (decide (a.nm = b.nm ∧ a.base = b.base ∧ a.tops = b.tops))) := by
 have e1 : pkV a = .agg ⟨[.string a.nm, .int .i64 a.base, intE.o a.kt a.tops]⟩ := rfl
 have e2 : pkV b = .agg ⟨[.string b.nm, .int .i64 b.base, intE.o b.kt b.tops]⟩ := rfl
 have ll := fun h => Enc.o_len (O := intE) (h := h) ha
 have lr := fun h => Enc.o_len (O := intE) (h := h) hb
 have il := fun (i : Nat) (hi : i < a.tops.length) => Enc.index_o (O := intE) (t := 3) (k := .i64) ha hi
 have ir := fun (i : Nat) (hi : i < b.tops.length) => Enc.index_o (O := intE) (t := 3) (k := .i64) hb hi
 rw [e1, e2, pureCall_fn F12 rfl]
 generalize intE.o a.kt a.tops = VL at *
 generalize intE.o b.kt b.tops = VR at *
 by_cases h1 : a.nm = b.nm
 case neg =>
  rw [decide_eq_false (fun h => h1 h.1)]
  simp -implicitDefEqProofs [r12, p12, h1]
  done
 by_cases h2 : a.base = b.base
 case neg =>
  rw [decide_eq_false (fun h => h2 h.2.1)]
  simp -implicitDefEqProofs [r12, p12, h1, h2]
  done
 by_cases hlen : a.tops.length = b.tops.length
 case neg =>
  rw [decide_eq_false (fun h => hlen (by rw [h.2.2]))]
  have hlen' : ¬ ((a.tops.length : Int) = b.tops.length) := by omega
  simp -implicitDefEqProofs [r12, p12, h1, h2, ll, lr, hlen']
  done
 simp -implicitDefEqProofs [r12, p12, h1, h2, ll, lr, hlen]
 rw [LL_for (γ := Unit) a.tops () (fun i _ => [(5, .int .i64 i)]) (fun _ _ => [pkF b.nm b.base VL, pkF b.nm b.base VR]) (fun i rest _ => if eqG rest (b.tops.drop i) then (.exit 0, [(5, undef)], [pkF b.nm b.base VL, pkF b.nm b.base VR]) else (.ret, [(4, .bool false), (5, undef)], [pkF b.nm b.base VL, pkF b.nm b.base VR])) (fun _ _ => True) hl trivial]
 ·rw [List.drop_zero]
  unfold pkF
  by_cases q : a.tops = b.tops
  ·have h : eqG b.tops b.tops = true := decide_eq_true rfl
   simp -implicitDefEqProofs [k12_4, h, q]
   done
  ·have h : eqG a.tops b.tops = false := decide_eq_false q
   simp -implicitDefEqProofs [k12_4, h, q]
   done
 ·simp -implicitDefEqProofs [k12_4]
 ·rfl
 ·intro nx i c hi _
  have hd0 : eqG [] (b.tops.drop i) = true := by rw [List.drop_eq_nil_of_le (by omega)]; rfl
  rw [hd0]
  unfold pkF
  simp -implicitDefEqProofs [r12_4, k12_4, ll, hi, hlen, trim_le]
  done
 ·intro nx i v rest c hi hv hd hw _ ih
  have ih := ih () trivial
  have hi' : i < b.tops.length := by omega
  have x1 := il i hi
  have x2 := ir i hi'
  rw [hv] at x1
  have hrd : b.tops.drop i = b.tops[i] :: b.tops.drop (i + 1) := List.drop_eq_getElem_cons hi'
  rw [hrd, eqG_cons]
  unfold pkF at *
  simp -implicitDefEqProofs [k12_4] at ih
  by_cases he : v = b.tops[i]
  ·rw [← he] at x2
   simp -implicitDefEqProofs [r12_4, k12_4, ll, hi', hlen, x1, x2, hw, ← he, trim_le, iE]
   with_reducible exact ih
  ·simp -implicitDefEqProofs [r12_4, k12_4, ll, hi', hlen, x1, x2, he, trim_le, iE]
   done
theorem check_ref (t : Tw) (ht : TwFew t) (c : Cc) (hc : c.cs.length ≤ 1000000) (k : Option Bool) (l : List Rt) (hl : RsFew k l) (q : Pk) (hq : Enc.Ok q.kt q.tops) (hqn : q.tops.length ≤ 9223372036854775807) :
  pureCall E.P (L E) 16 [twV t, rtR.o k l, ccV c, pkV q] = some (.int .i64 (chkV t c l q)) := by
 have hpk := peak_ref t ht c hc k l hl
 have hsm := same_ref q ⟨c.nm, loadT32 t c, some false, l.map (topR t.p.ts c)⟩ hq Enc.ok_some hqn
 have eT : l.map (topR t.p.ts c) = topsR t c l := rfl
 have eR : ∀ W : List Int, pkV ⟨c.nm, loadT32 t c, some false, W⟩ = .agg ⟨[.string c.nm, .int .i64 (loadT32 t c), intE.o (some false) W]⟩ := fun W => rfl
 have eQ : pkV q = .agg ⟨[.string q.nm, .int .i64 q.base, intE.o q.kt q.tops]⟩ := rfl
 rw [eT, eR] at hpk hsm
 rw [eQ] at hsm ⊢
 have rq : ∀ n h, reify E.P (n + 1) h (intE.o q.kt q.tops) = some (intE.o q.kt q.tops) := fun n h => Enc.o_reify
 have rw_ : ∀ n h, reify E.P (n + 1) h (intE.o (some false) (topsR t c l)) = some (intE.o (some false) (topsR t c l)) := fun n h => Enc.o_reify
 have sq : ∀ n, settled (n + 1) (intE.o q.kt q.tops) = true := fun n => Enc.o_set
 have sw : ∀ n, settled (n + 1) (intE.o (some false) (topsR t c l)) = true := fun n => Enc.o_set
 have st : settled depth (twV t) = true := twC_set t 6
 have sc : settled depth (ccV c) = true := rfl
 have sr : settled depth (rtR.o k l) = true := Rec.o_set
 have ec : chkV t c l q = if decide (q.nm = c.nm ∧ q.base = loadT32 t c ∧ q.tops = topsR t c l) = true then 0 else 19 := by unfold chkV; simp only [decide_eq_true_eq]
 rw [ec, pureCall_fn F16 rfl]
 unfold ccV ccC twV twC at *
 generalize decide (q.nm = c.nm ∧ q.base = loadT32 t c ∧ q.tops = topsR t c l) = D at *
 generalize tbR.o t.p.kt t.p.ts = VT at *
 generalize pdR.o t.kb t.bs = VB at *
 generalize entR.o t.ke t.es = VE at *
 generalize rtR.o k l = VL at *
 generalize loadT32 t c = n0 at *
 generalize intE.o (some false) (topsR t c l) = VW at *
 generalize intE.o q.kt q.tops = VQ at *
 cases D
 ·simp -implicitDefEqProofs [r16, p16, ret1 m9, hpk, st, sc, sr, ret0 m12, sq, sw, hsm, reifyC_set]
  done
 ·simp -implicitDefEqProofs [r16, p16, ret1 m9, hpk, st, sc, sr, ret0 m12, sq, sw, hsm, reifyC_set]
  done
end Go.Proofs.YtjkemccfcabhgaaGreat.Bm
