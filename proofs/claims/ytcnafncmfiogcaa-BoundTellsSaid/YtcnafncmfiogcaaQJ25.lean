/-
 Chapter 25: the statement on the tree of the search. Conditions: what the types say of the arguments.
-/
import Derived.Test.YtcnafncmfiogcaaQJ24
import Derived.Test.YtcnafncmfiogcaaQJ23
namespace Go.Proofs.Ytcnafncmfiogcaa.Bm
open Go Go.RowKit
open Rg (Rect areaL)
open Cp (Q nameB validQ badP hasP bitB)
theorem index_strs (x : Bool) (l : List ByteArray) (z : ByteArray) (hl : l.length ≤ 1000000) : pureCall E.P (L E) 82 [lst x (strE.vals l), .string z] = some (.int .i64 (idxB (fun a => decide (z = a)) l 0)) := by
 have ll : ∀ h, lenT .sl h (lst x (strE.vals l)) = some (.int .i64 l.length) := fun h => Enc.o_len (O := strE) (k := some x) Enc.ok_some
 have il : ∀ (i : Nat) (hi : i < l.length), indexAddrT (.sl 9 ⟨some false, some 1⟩) (lst x (strE.vals l)) (.int .i64 (i : Int)) = some (cptr (.string l[i])) := fun i hi => Enc.index_tree (O := strE) hi
 generalize lst x (strE.vals l) = VL at *
 rw [pureCall_fn F82 rfl]
 generalize hf : (fun a => decide (z = a)) = f
 simp -implicitDefEqProofs [r82, p82, ll]
 rw [LL_for (γ := Unit) l () (fun i _ => [(8, .int .i64 i)]) (fun _ _ => []) (fun i rest _ => if idxB f rest i = -1 then (.exit 0, [(8, undef)], []) else (.ret, [(4, .int .i64 (idxB f rest i)), (8, undef)], [])) (fun _ _ => True) (by omega) trivial]
 ·rw [show ((0 : Nat) : Int) = 0 from rfl]
  by_cases q : idxB f l 0 = -1
  ·simp -implicitDefEqProofs [k82_2, q]
  ·simp -implicitDefEqProofs [k82_2, q]
 ·simp -implicitDefEqProofs [k82_2]
 ·rfl
 ·intro nx i c hi _
  have e : ∀ z, idxB f [] z = -1 := fun _ => rfl
  simp -implicitDefEqProofs [r82_2, k82_2, hi, e, trim_le]
 ·intro nx i v rest c hi hv hd hw _ ih
  have ih := ih () trivial
  have hi2 : ((i : Int) < l.length) := by omega
  have x1 := il i hi
  rw [hv] at x1
  have e2 : (((i + 1 : Nat) : Int)) = (i : Int) + 1 := by omega
  rw [e2] at ih
  rw [idxB_cons]
  simp -implicitDefEqProofs [k82_2] at ih
  have ef : f v = decide (z = v) := by rw [← hf]
  rw [ef]
  by_cases he : z = v
  ·have hn : ¬ ((i : Int) = -1) := by omega
   subst he
   simp -implicitDefEqProofs [r82_2, k82_2, hi2, x1, hn, trim_le]
  ·simp -implicitDefEqProofs [r82_2, k82_2, hi2, x1, he, hw, trim_le]
   exact ih
theorem lit_names (h : Heap) : buildSliceT (some ⟨9, 1, 16, .string ⟨⟨[]⟩⟩, ⟨some false, some 1⟩⟩) false h 6 #[(0, .string ⟨⟨[104, 111, 109, 101]⟩⟩), (1, .string ⟨⟨[115, 104, 111, 112]⟩⟩), (2, .string ⟨⟨[119, 111, 114, 107]⟩⟩), (3, .string ⟨⟨[112, 97, 114, 107]⟩⟩), (4, .string ⟨⟨[112, 108, 97, 110, 116]⟩⟩), (5, .string ⟨⟨[104, 97, 108, 108]⟩⟩)] = some (lst true (strE.vals namesL), h) :=
 (build_lit' (n := 6) (l := [(0, .string ⟨⟨[104, 111, 109, 101]⟩⟩), (1, .string ⟨⟨[115, 104, 111, 112]⟩⟩), (2, .string ⟨⟨[119, 111, 114, 107]⟩⟩), (3, .string ⟨⟨[112, 97, 114, 107]⟩⟩), (4, .string ⟨⟨[112, 108, 97, 110, 116]⟩⟩), (5, .string ⟨⟨[104, 97, 108, 108]⟩⟩)]) rfl rfl (by decide) (by decide) (by decide)).trans rfl
theorem useIndex_spec (s : ByteArray) : pureCall E.P (L E) 67 [.string s] = some (.int .i64 (idxN s)) := by
 have h := index_strs true namesL s (by decide)
 have e : idxB (fun a => decide (s = a)) namesL 0 = idxN s := rfl
 rw [e] at h
 have rf : ∀ h, reify E.P 8 h (lst true (strE.vals namesL)) = some (lst true (strE.vals namesL)) := fun h => rfl
 rw [pureCall_fn F67 rfl]
 simp -implicitDefEqProofs [r67, p67, lit_names, ret0 m82, rf, h]
def bpO (av : Value) (b : Bp) : AObj := .cells 105 (bpC av b) 0
theorem bp_set1 {av : Value} {b : Bp} (h : BpL b) {u : Nat} (hu : u < 6) (z : Bool) : (bpC av b).set (1 + u) (.bool z) = bpC av ⟨b.A, b.may.set u z, b.lim, b.nev, b.most⟩ := by
 unfold bpC
 rw [Nat.add_comm, List.set_cons_succ, List.set_append_left _ _ (by rw [Enc.vals_len, h.may]; exact hu), show Value.bool z = bolE.e z from rfl, Enc.vals_put]
theorem bp_set7 {av : Value} {b : Bp} (h : BpL b) {u : Nat} (hu : u < 6) (z : Int) : (bpC av b).set (7 + u) (.int .i64 z) = bpC av ⟨b.A, b.may, b.lim.set u z, b.nev, b.most⟩ := by
 unfold bpC
 rw [show 7 + u = (6 + u) + 1 by omega, List.set_cons_succ, List.set_append_right _ _ (by rw [Enc.vals_len, h.may]; omega), Enc.vals_len, h.may, show 6 + u - 6 = u by omega, List.set_append_left _ _ (by rw [Enc.vals_len, h.lim]; exact hu), show Value.int .i64 z = intE.e z from rfl, Enc.vals_put]
theorem bp_get7 {av : Value} {b : Bp} (h : BpL b) {u : Nat} (hu : u < 6) : (bpC av b)[7 + u]? = some (.int .i64 (b.lim[u]'(by have := h.lim; omega))) := by
 unfold bpC
 rw [show 7 + u = (6 + u) + 1 by omega, List.getElem?_cons_succ, List.getElem?_append_right (by rw [Enc.vals_len, h.may]; omega), Enc.vals_len, h.may, show 6 + u - 6 = u by omega, List.getElem?_append_left (by rw [Enc.vals_len, h.lim]; exact hu)]
 exact Enc.vals_get (by have := h.lim; omega)
theorem bp_set13 {av : Value} {b : Bp} (h : BpL b) {u : Nat} (hu : u < 36) (z : Bool) : (bpC av b).set (13 + u) (.bool z) = bpC av ⟨b.A, b.may, b.lim, b.nev.set u z, b.most⟩ := by
 unfold bpC
 rw [show 13 + u = (12 + u) + 1 by omega, List.set_cons_succ, List.set_append_right _ _ (by rw [Enc.vals_len, h.may]; omega), Enc.vals_len, h.may, List.set_append_right _ _ (by rw [Enc.vals_len, h.lim]; omega), Enc.vals_len, h.lim, show 12 + u - 6 - 6 = u by omega, List.set_append_left _ _ (by rw [Enc.vals_len, h.nev]; exact hu), show Value.bool z = bolE.e z from rfl, Enc.vals_put]
theorem bols_bel (l : List Bool) (d n : Nat) : (bolE.vals l).all (below (d + 1) n) = true := by
 rw [List.all_eq_true]
 intro v hv
 obtain ⟨a, _, rfl⟩ := List.mem_map.1 hv
 rfl
theorem bp_bel {av : Value} {b : Bp} {d n : Nat} (ha : below (d + 1) n av = true) : (bpC av b).all (below (d + 1) n) = true := by
 unfold bpC
 rw [List.all_cons, ha, List.all_append, bols_bel, List.all_append, ints_bel, List.all_append, bols_bel]; rfl
theorem mapR_id {h : Heap} {n : Nat} : ∀ {l : List Value}, (∀ v ∈ l, reify E.P n h v = some v) → mapR E.P n h l = some l
 | [], _ => rfl
 | u :: l, hl => by
  show (reify E.P n h u).bind (fun a => (mapR E.P n h l).map (a :: ·)) = _
  rw [hl u List.mem_cons_self, mapR_id fun v hv => hl v (List.mem_cons_of_mem u hv)]; rfl
theorem bpT_reify (h : Heap) (b : Bp) (n : Nat) : mapR E.P (n + 1) h (bolE.vals b.may ++ (intE.vals b.lim ++ (bolE.vals b.nev ++ [.int .i64 b.most]))) = some (bolE.vals b.may ++ (intE.vals b.lim ++ (bolE.vals b.nev ++ [.int .i64 b.most]))) := by
 refine mapR_id fun v hv => ?_
 rcases List.mem_append.1 hv with hv | hv
 ·obtain ⟨a, _, rfl⟩ := List.mem_map.1 hv; rfl
 rcases List.mem_append.1 hv with hv | hv
 ·obtain ⟨a, _, rfl⟩ := List.mem_map.1 hv; rfl
 rcases List.mem_append.1 hv with hv | hv
 ·obtain ⟨a, _, rfl⟩ := List.mem_map.1 hv; rfl
 ·rw [List.mem_singleton.1 hv]; rfl
theorem sBP : szOf E.P 105 = some 50 := by kernel_rfl
theorem aBP : aggT E.P 105 = some true := by kernel_rfl
theorem bp_reify {h : Heap} {b : Bp} (hb : BpL b) {A : List Int} (h1 : h[1]? = some (bpO (Enc.sl 2 A) b)) (h2 : h[2]? = some (intE.row 3 A)) : reify E.P 8 h (.pointer (some ⟨1, 0, none⟩)) = some (bpV ⟨A, b.may, b.lim, b.nev, b.most⟩) := by
 rw [reify_ptr, h1]
 unfold bpO
 rw [reifyP_cells, if_pos ⟨rfl, rfl, by rw [bp_len hb]; exact sBP⟩]
 have e : reifyC E.P 7 h (bpC (Enc.sl 2 A) b) = some (bpC (lst false (intE.vals A)) b) := by
  have hn : (bpC (Enc.sl 2 A) b).all (settled 8) = false := by unfold bpC; rw [List.all_cons]; rfl
  rw [reifyC_map hn]
  show (reify E.P 7 h (Enc.sl 2 A)).bind (fun y => (mapR E.P 7 h _).map (y :: ·)) = _
  rw [Enc.reify_sl (O := intE) h2 sI1 gI1, Option.bind_some, bpT_reify]; rfl
 rw [e, Option.bind_some, aBP, wrapP_agg]; rfl
def gB : Bool → Rooms → List Int
 | _, [] => []
 | e, r :: l => if (e || decide (areaL r.2 = 0)) = true then gB true l else areaL r.2 :: gB false l
theorem gB_true : ∀ l : Rooms, gB true l = []
 | [] => rfl
 | _r :: l => gB_true l
theorem gB_take : ∀ l : Rooms, gB false l = (l.map fun r => areaL r.2).takeWhile fun a => decide (a ≠ 0)
 | [] => rfl
 | r :: l => by
  have ih := gB_take l
  show (if (false || decide (areaL r.2 = 0)) = true then gB true l else areaL r.2 :: gB false l) = _
  rw [Bool.false_or, List.map_cons, List.takeWhile_cons]
  by_cases h : areaL r.2 = 0
  ·rw [if_pos (decide_eq_true h), gB_true, if_neg (by simp [h])]
  ·rw [if_neg (by simp [h]), if_pos (decide_eq_true h), ih]
def f6 : List Bool := List.replicate 6 false
def z6 : List Int := List.replicate 6 0
def f36 : List Bool := List.replicate 36 false
def p0 (m : Int) : Bp := ⟨[], f6, z6, f36, m⟩
theorem mayN_set (q : Q) (n : Nat) (hn : n < 6) : (mayN q n).set n (bitB q.uses n) = mayN q (n + 1) := by
 have : n = 0 ∨ n = 1 ∨ n = 2 ∨ n = 3 ∨ n = 4 ∨ n = 5 := by omega
 rcases this with rfl | rfl | rfl | rfl | rfl | rfl <;> rfl
theorem bigN_set (n : Nat) (hn : n < 6) : (bigN n).set n big = bigN (n + 1) := by
 have : n = 0 ∨ n = 1 ∨ n = 2 ∨ n = 3 ∨ n = 4 ∨ n = 5 := by omega
 rcases this with rfl | rfl | rfl | rfl | rfl | rfl <;> rfl
theorem nev_index {i j : Int} (hi : 0 ≤ i ∧ i < 6) (hj : 0 ≤ j ∧ j < 6) : ∃ a, indexAddrT (.arr 6 ⟨some true, some 6⟩) (.pointer (some ⟨1, 13, none⟩)) (.int .i64 i) = some a ∧ indexAddrT (.arr 6 ⟨some false, some 1⟩) a (.int .i64 j) = some (cAt 1 (13 + (6 * i.toNat + j.toNat))) := by
 obtain ⟨n, rfl⟩ : ∃ n : Nat, i = (n : Int) := ⟨i.toNat, by omega⟩
 obtain ⟨m, rfl⟩ : ∃ m : Nat, j = (m : Int) := ⟨j.toNat, by omega⟩
 refine ⟨_, arr_idxN (by omega), ?_⟩
 rw [arr_idxC (by omega), Int.toNat_natCast, Int.toNat_natCast]
 congr 2; omega
end Go.Proofs.Ytcnafncmfiogcaa.Bm
namespace Go.Proofs.Ytcnafncmfiogcaa.Bm
open Go Go.RowKit
open Rg (Rect areaL)
open Cp (Q nameB validQ badP hasP bitB)
def noP : Value := .tuple ⟨[.pointer none, .bool false]⟩
def pO (p : Pb) : AObj := .cells 26 p.cells 0
def rH (p : Pb) (A : List Int) (b : Bp) : Heap := [pO p, bpO (Enc.sl 2 A) b, intE.row 3 A]
theorem rH_bel (p : Pb) (A : List Int) (b : Bp) (n : Nat) (hn : 3 ≤ n) : (rH p A b).all (belowO n) = true := by
 have h1 := pb_bel p 7 n
 have h2 := bp_bel (b := b) (d := 7) (n := n) (av := Enc.sl 2 A) (Enc.sl_bel (by omega))
 have h3 := Enc.row_bel (O := intE) (t := 3) (l := A) (n := n)
 show (p.cells.all (below 8 n) && ((bpC (Enc.sl 2 A) b).all (below 8 n) && (belowO n (intE.row 3 A) && true))) = true
 rw [h1, h2, h3]; rfl
theorem trim_rH (p : Pb) (A : List Int) (b : Bp) (e : Heap) (l : List Value) (hl : l.all (below 8 3) = true) : trim 3 l (rH p A b ++ e) = rH p A b := by
 unfold Bm.trim
 split
 ·rename_i h
  rw [List.length_append] at h
  have h3 : (rH p A b).length = 3 := rfl
  have : e = [] := List.eq_nil_of_length_eq_zero (by omega)
  rw [this, List.append_nil]
 ·have e1 : (rH p A b ++ e).take 3 = rH p A b := List.take_left' rfl
  rw [e1, if_pos]
  show (l.all (below 8 3) && (rH p A b).all (belowO 3)) = true
  rw [rH_bel p A b 3 (Nat.le_refl _), hl]; rfl
theorem ld_p (p : Pb) (j : Nat) (v : Value) (h : p.cells[j]? = some v) (t : Heap) : loadT ⟨some false, some 1⟩ (pO p :: t) (.pointer (some ⟨0, j, none⟩)) = some v := obj_load (b := 0) (j := j) rfl h
theorem rH_len {p : Pb} {A : List Int} {b : Bp} : (rH p A b).length = 3 := rfl
theorem ld_r (p : Pb) (A : List Int) (b : Bp) (j : Nat) (v : Value) (h : p.cells[j]? = some v) : loadT ⟨some false, some 1⟩ (rH p A b) (.pointer (some ⟨0, j, none⟩)) = some v := ld_p p j v h _
theorem rst {p : Pb} {A : List Int} {b b' : Bp} (hb : BpL b) {j : Nat} {v : Value} (hj : j < 50) (hv : cellsOf v = some [v]) (hs : (bpC (Enc.sl 2 A) b).set j v = bpC (Enc.sl 2 A) b') (e : Heap) :
  storeT (some 1) (rH p A b ++ e) 0 v (cAt 1 j) = some (rH p A b' ++ e) := by
 refine (obj_store (h := rH p A b ++ e) (b := 1) (lo := 0) (t := 105) (c := bpC (Enc.sl 2 A) b) rfl (by rw [bp_len hb]; exact hj) (Nat.zero_le _) hv).trans ?_
 rw [hs]; rfl
theorem rst' {p : Pb} {A : List Int} {b b' : Bp} (hb : BpL b) {j : Nat} {v : Value} (hj : j < 50) (hv : cellsOf v = some [v]) (hs : (bpC (Enc.sl 2 A) b).set j v = bpC (Enc.sl 2 A) b') :
  storeT (some 1) (rH p A b) 0 v (cAt 1 j) = some (rH p A b') := by
 have := rst (p := p) (A := A) hb hj hv hs []
 rw [List.append_nil, List.append_nil] at this
 exact this
theorem trim_rH1 (p : Pb) (A : List Int) (b : Bp) (l : List Value) : trim 3 l (rH p A b) = rH p A b := by
 unfold Bm.trim
 rw [if_pos (show (rH p A b).length ≤ 3 from Nat.le_refl 3)]
theorem nilP (a : Addr) (h : Heap) : nilT (.pointer (some a)) h = some (.pointer (some a), h) := rfl
theorem bpO_build (m : Int) : buildT (.fs ⟨bpC (.slice none 0 0) (p0 0)⟩ ⟨[(0, 1), (1, 6), (7, 6), (13, 36), (49, 1)]⟩) #[(4, .int .i64 m)] = some (.agg ⟨bpC (.slice none 0 0) (p0 m)⟩) := rfl
theorem p0_l {m : Int} (hm : -9223372036854775808 ≤ m ∧ m ≤ 9223372036854775807) : BpL (p0 m) := ⟨rfl, rfl, rfl, hm⟩
theorem min_any {x : Int × Int} (h : badP x = false) : 0 ≤ x.1 ∧ x.1 < 6 ∧ 0 ≤ x.2 ∧ x.2 < 6 := by
 unfold badP at h
 rw [Bool.or_eq_false_iff, decide_eq_false_iff_not, decide_eq_false_iff_not] at h
 omega
theorem arr2_i (b : Nat) (t : Nat) (ht : t < 2) : indexAddrT (.arr 2 ⟨some false, some 1⟩) (.pointer (some ⟨b, 0, none⟩)) (.int .i64 (t : Int)) = some (cAt b t) := by
 have := arr_idx (b := b) (off := 0) (len := 2) (k := .i64) (g := some false) ht
 rw [Nat.zero_add] at this
 exact this
def nevT (N : List Bool) (l : List (Int × Int)) : List Bool := (l.takeWhile fun x => !badP x).foldl nevStep N
theorem nevT_nil (N : List Bool) : nevT N [] = N := rfl
theorem nevT_bad (N : List Bool) (x : Int × Int) (l : List (Int × Int)) (h : badP x = true) : nevT N (x :: l) = N := by unfold nevT; rw [List.takeWhile_cons, h]; rfl
theorem nevT_ok (N : List Bool) (x : Int × Int) (l : List (Int × Int)) (h : badP x = false) : nevT N (x :: l) = nevT (nevStep N x) l := by unfold nevT; rw [List.takeWhile_cons, h]; rfl
theorem nevT_all (N : List Bool) : ∀ (l : List (Int × Int)), l.any badP = false → nevT N l = l.foldl nevStep N
 | [], _ => rfl
 | x :: l, h => by
  rw [List.any_cons, Bool.or_eq_false_iff] at h
  rw [nevT_ok N x l h.1, nevT_all _ l h.2]; rfl
def gT (c : Bool × List Int) (l : Rooms) : List Int := c.2 ++ gB c.1 (l.takeWhile fun r => regB r.2)
theorem gT_nil (c : Bool × List Int) : gT c [] = c.2 := by unfold gT; exact List.append_nil _
theorem gT_bad (c : Bool × List Int) (r : Option Bool × List Rect) (l : Rooms) (h : regB r.2 = false) : gT c (r :: l) = c.2 := by unfold gT; rw [List.takeWhile_cons, h]; exact List.append_nil _
theorem gT_end (c : Bool × List Int) (r : Option Bool × List Rect) (l : Rooms) (h : regB r.2 = true) (h2 : (c.1 || decide (areaL r.2 = 0)) = true) : gT c (r :: l) = gT (true, c.2) l := by
 unfold gT
 rw [List.takeWhile_cons, h]
 show c.2 ++ (if (c.1 || decide (areaL r.2 = 0)) = true then gB true _ else _) = _
 rw [if_pos h2]
theorem gT_add (c : Bool × List Int) (r : Option Bool × List Rect) (l : Rooms) (h : regB r.2 = true) (h2 : (c.1 || decide (areaL r.2 = 0)) = false) : gT c (r :: l) = gT (false, c.2 ++ [areaL r.2]) l := by
 unfold gT
 rw [List.takeWhile_cons, h]
 show c.2 ++ (if (c.1 || decide (areaL r.2 = 0)) = true then gB true _ else areaL r.2 :: gB false _) = _
 rw [h2, if_neg (by decide), List.append_assoc]; rfl
theorem tw_all {P : Rooms} (h : P.all (fun r => regB r.2) = true) : P.takeWhile (fun r => regB r.2) = P := by
 induction P with
 | nil => rfl
 | cons r P ih =>
  rw [List.all_cons, Bool.and_eq_true] at h
  rw [List.takeWhile_cons, if_pos h.1, ih h.2]
theorem ap_r (p : Pb) (acc : List Int) (b : Bp) (n : Int) (ha : acc.length ≤ 1000) : appendT (some elInt) (rH p acc b) 0 false (Enc.sl 2 acc) (lst true (intE.vals [n])) = some (Enc.sl 2 (acc ++ [n]), [pO p, bpO (Enc.sl 2 acc) b, intE.row 3 (acc ++ [n])]) :=
 (Enc.app (O := intE) (el := elInt) (t := 3) (m := [n]) rfl rfl Enc.cells_tree (Nat.zero_le _) (by show (acc.length + 1) * 8 ≤ 2 ^ 47; omega)).trans rfl
theorem st_r (p : Pb) (acc : List Int) (b : Bp) (hb : BpL b) (n : Int) : storeT (some 1) [pO p, bpO (Enc.sl 2 acc) b, intE.row 3 (acc ++ [n])] 0 (Enc.sl 2 (acc ++ [n])) (.pointer (some ⟨1, 0, none⟩)) = some (rH p (acc ++ [n]) b) :=
 (obj_store (h := [pO p, bpO (Enc.sl 2 acc) b, intE.row 3 (acc ++ [n])]) (b := 1) (j := 0) (lo := 0) (t := 105) (c := bpC (Enc.sl 2 acc) b) rfl (by rw [bp_len hb]; decide) (Nat.zero_le _) rfl).trans rfl
set_option maxHeartbeats 4000000 in
theorem read_spec (x : Bool) (P : Rooms) (hP : RoomsOk P) (p : Pb) (hp : PbOk p) : pureCall E.P (L E) 52 [roomsV x P, p.val] =
  some (match areasF (lists P) with | some A => if validQ p.q = true then .tuple ⟨[bpV (bpOf p.q A), .bool true]⟩ else noP | none => noP) := by
 have ln := fun h => rooms_len h x P
 have ix := rooms_index x P
 have h13 := hP.len
 have hll : (lists P).length = P.length := List.length_map _
 have bR : ∀ d n, below (d + 1) n (roomsV x P) = true := fun d n => rfl
 have bE : ∀ d n, below (d + 1) n (entR.o p.kl p.left) = true := fun d n => Rec.o_bel
 have bP : ∀ d n, below (d + 1) n (pairR.o p.kn p.never) = true := fun d n => Rec.o_bel
 have bC := pb_bel p
 have bB : ∀ d n, (bpC (.slice none 0 0) (p0 p.most)).all (below (d + 1) n) = true := fun d n => bp_bel rfl
 generalize roomsV x P = RV at *
 have l0 := pb_ld p 0 _ rfl
 have l1 := pb_ld p 1 _ rfl
 have l2 := pb_ld p 2 _ rfl
 have l3 := pb_ld p 3 _ rfl
 have n1 := fun h => Rec.o_len (R := entR) (h := h) hp.kl
 have n3 := fun h => Rec.o_len (R := pairR) (h := h) hp.kn
 have ei := fun (i : Nat) (hi : i < p.left.length) => Rec.o_index (R := entR) (s := 2) (t := 60) (kk := .i64) rfl hp.kl hi
 have pi := fun (i : Nat) (hi : i < p.never.length) => Rec.o_index (R := pairR) (s := 2) (t := 61) (kk := .i64) rfl hp.kn hi
 have ev : validQ p.q = (decide (0 ≤ p.uses) && (decide (p.uses ≤ 63) && (decide (0 ≤ p.most) && (decide (p.left.length ≤ 30) && (decide (p.never.length ≤ 36) && !p.never.any badP))))) := rfl
 have no_v : validQ p.q = false → (match areasF (lists P) with | some A => if validQ p.q = true then Value.tuple ⟨[bpV (bpOf p.q A), .bool true]⟩ else noP | none => noP) = noP := fun h => by
  rw [h]
  cases areasF (lists P) <;> rfl
 have no_a : areasF (lists P) = none → (match areasF (lists P) with | some A => if validQ p.q = true then Value.tuple ⟨[bpV (bpOf p.q A), .bool true]⟩ else noP | none => noP) = noP := fun h => by rw [h]
 have hu := hp.u
 have hm := hp.m
 have pe : p.val = .agg ⟨p.cells⟩ := rfl
 have fp : flat (.pointer none) = true := rfl
 have rp : ∀ h, reify E.P 8 h (.pointer none) = some (.pointer none) := fun h => rfl
 rw [pureCall_fn F52 rfl, pe]
 by_cases q1 : 12 < P.length
 ·have q1' : (12 : Int) < P.length := by omega
  rw [no_a (by unfold areasF; rw [if_neg (by rw [hll]; rintro ⟨h, _⟩; omega)])]
  simp -implicitDefEqProofs [r52, p52, ln, q1', noP, fp, rp]
 have q1' : ¬ (12 : Int) < P.length := by omega
 by_cases q2 : p.uses < 0
 ·rw [no_v (by rw [ev, decide_eq_false (by omega)]; rfl)]
  simp -implicitDefEqProofs [r52, p52, ln, q1', l0, q2, noP, fp, rp]
 by_cases q3 : 64 ≤ p.uses
 ·rw [no_v (by rw [ev, decide_eq_false (show ¬ p.uses ≤ 63 by omega)]; simp)]
  simp -implicitDefEqProofs [r52, p52, ln, q1', l0, q2, q3, noP, fp, rp]
 by_cases q4 : p.most < 0
 ·rw [no_v (by rw [ev, decide_eq_false (show ¬ 0 ≤ p.most by omega)]; simp)]
  simp -implicitDefEqProofs [r52, p52, ln, q1', l0, l2, q2, q3, q4, noP, fp, rp]
 by_cases q5 : 30 < p.left.length
 ·have q5' : (30 : Int) < p.left.length := by omega
  rw [no_v (by rw [ev, decide_eq_false (show ¬ p.left.length ≤ 30 by omega)]; simp)]
  simp -implicitDefEqProofs [r52, p52, ln, q1', l0, l1, l2, n1, q2, q3, q4, q5', noP, fp, rp]
 have q5' : ¬ (30 : Int) < p.left.length := by omega
 by_cases q6 : 36 < p.never.length
 ·have q6' : (36 : Int) < p.never.length := by omega
  rw [no_v (by rw [ev, decide_eq_false (show ¬ p.never.length ≤ 36 by omega)]; simp)]
  simp -implicitDefEqProofs [r52, p52, ln, q1', l0, l1, l2, l3, n1, n3, q2, q3, q4, q5', q6', noP, fp, rp]
 have q6' : ¬ (36 : Int) < p.never.length := by omega
 have ev' : validQ p.q = !p.never.any badP := by
  rw [ev, decide_eq_true (show 0 ≤ p.uses by omega), decide_eq_true (show p.uses ≤ 63 by omega), decide_eq_true (show 0 ≤ p.most by omega), decide_eq_true (show p.left.length ≤ 30 by omega), decide_eq_true (show p.never.length ≤ 36 by omega)]; simp
 have ea : areasF (lists P) = if P.all (fun r => regB r.2) = true then some (gT (false, []) P) else none := by
  unfold areasF
  rw [hll, lists_all, lists_map]
  by_cases ha : P.all (fun r => regB r.2) = true
  ·rw [if_pos ⟨by omega, ha⟩, if_pos ha]
   unfold gT
   rw [tw_all ha, gB_take]; rfl
  ·rw [if_neg (fun h => ha h.2), if_neg ha]
 rw [ea, ev']
 have bb := bpO_build p.most
 have e0 : bpC (.slice none 0 0) (p0 0) = [.slice none 0 0, .bool false, .bool false, .bool false, .bool false, .bool false, .bool false, .int .i64 0, .int .i64 0, .int .i64 0, .int .i64 0, .int .i64 0, .int .i64 0, .bool false, .bool false, .bool false, .bool false, .bool false, .bool false, .bool false, .bool false, .bool false, .bool false, .bool false, .bool false, .bool false, .bool false, .bool false, .bool false, .bool false, .bool false, .bool false, .bool false, .bool false, .bool false, .bool false, .bool false, .bool false, .bool false, .bool false, .bool false, .bool false, .bool false, .bool false, .bool false, .bool false, .bool false, .bool false, .bool false, .int .i64 0] := rfl
 rw [e0] at bb
 have nc : ∀ σ : Slots, newcK E.P 0 [AObj.cells 26 p.cells 0, AObj.cells 105 (bpC (.slice none 0 0) (p0 p.most)) 0] σ 0 3 (.pointer (some ⟨1, 0, none⟩)) = some (σ, rH p [] (p0 p.most)) := fun σ => by
  refine (newcK_cell (off := 0) (n := 0) (b := 1) (g := 0) (ty := 105) (c := bpC (.slice none 0 0) (p0 p.most)) rfl rfl sI1 (Nat.zero_le _)).trans ?_
  rfl
 simp -implicitDefEqProofs [r52, p52, ln, q1', l0, l1, l2, l3, n1, n3, q2, q3, q4, q5', q6', bb, prep_newc, nc, fp]
 rw [LL_for (γ := Bool × List Int) P (false, []) (fun i c => [(7, .bool c.1), (53, .int .i64 i)]) (fun _ c => rH p c.2 (p0 p.most))
  (fun _ rest c => if rest.all (fun r => regB r.2) = true then (.exit 0, [(7, undef), (53, undef)], rH p (gT c rest) (p0 p.most)) else (.ret, [(4, .pointer none), (5, .bool false), (7, undef), (53, undef)], rH p (gT c rest) (p0 p.most))) (fun i c => c.2.length ≤ i) (by omega) (Nat.zero_le _)]
 ·cases ha : P.all (fun r => regB r.2)
  ·simp -implicitDefEqProofs [k52_6, rp, noP, -List.all_eq_true]
  have hA := areas_told (P := lists P) (A := gT (false, []) P) (by rw [ea, ha]; rfl)
  generalize gT (false, []) P = A at *
  have lr3 : loadT ⟨some false, some 1⟩ (rH p A (p0 p.most)) (.pointer (some ⟨0, 3, none⟩)) = some (pairR.o p.kn p.never) := ld_r p A (p0 p.most) 3 _ rfl
  simp -implicitDefEqProofs [k52_6, lr3, n3, -List.all_eq_true]
  have hbN : ∀ N : List Bool, N.length = 36 → BpL ⟨[], f6, z6, N, p.most⟩ := fun N hN => ⟨rfl, rfl, hN, hm⟩
  rw [LL_for (γ := List Bool) p.never f36 (fun i _ => [(83, .int .i64 i)]) (fun _ N => rH p A ⟨[], f6, z6, N, p.most⟩)
   (fun _ rest N => if rest.any badP = false then (.exit 2, [(83, undef)], rH p A ⟨[], f6, z6, nevT N rest, p.most⟩) else (.ret, [(4, .pointer none), (5, .bool false), (83, undef)], rH p A ⟨[], f6, z6, nevT N rest, p.most⟩)) (fun _ N => N.length = 36) (by omega) rfl]
  ·cases hb : p.never.any badP
   case true => simp -implicitDefEqProofs [k52_16, rp, noP, -List.any_eq_true, -List.any_eq_false]
   rw [nevT_all _ _ hb]
   simp -implicitDefEqProofs [k52_16, -List.any_eq_true, -List.any_eq_false]
   have hN : (p.never.foldl nevStep f36).length = 36 := (nevB_fold p.never f36 rfl hb).1
   have eN : p.never.foldl nevStep f36 = nevB p.never := rfl
   rw [eN] at hN ⊢
   have hb3 : ∀ (M : List Bool) (L : List Int), M.length = 6 → L.length = 6 → BpL ⟨[], M, L, nevB p.never, p.most⟩ := fun M L h1 h2 => ⟨h1, h2, hN, hm⟩
   have hA2 : A.length ≤ 12 := hA.1
   have lp0 : ∀ b : Bp, loadT ⟨some false, some 1⟩ (rH p A b) (.pointer (some ⟨0, 0, none⟩)) = some (.int .i64 p.uses) := fun b => ld_r p A b 0 _ rfl
   have lp1 : ∀ b : Bp, loadT ⟨some false, some 1⟩ (rH p A b) (.pointer (some ⟨0, 1, none⟩)) = some (entR.o p.kl p.left) := fun b => ld_r p A b 1 _ rfl
   have a1 : ∀ u : Nat, u < 6 → indexAddrT (.arr 6 ⟨some false, some 1⟩) (.pointer (some ⟨1, 1, none⟩)) (.int .i64 (u : Int)) = some (cAt 1 (1 + u)) := fun u hu => arr_idx hu
   have a7 : ∀ u : Nat, u < 6 → indexAddrT (.arr 6 ⟨some false, some 1⟩) (.pointer (some ⟨1, 7, none⟩)) (.int .i64 (u : Int)) = some (cAt 1 (7 + u)) := fun u hu => arr_idx hu
   rw [LL_rec (α := Nat) 0 (fun u => [(111, .int .i64 (u : Int))]) (fun u => rH p A ⟨[], mayN p.q u, bigN u, nevB p.never, p.most⟩)
    (fun _ => (.exit 4, [(111, undef)], rH p A ⟨[], mayN p.q 6, bigN 6, nevB p.never, p.most⟩)) (fun u => u ≤ 6) (fun u => 6 - u) (Nat.zero_le _)]
   ·simp -implicitDefEqProofs [k52_23, lp1, n1]
    have e6 : bigN 6 = List.replicate 6 big := rfl
    rw [LL_for (γ := List Int) p.left (bigN 6) (fun i _ => [(134, .int .i64 i)]) (fun _ L => rH p A ⟨[], mayN p.q 6, L, nevB p.never, p.most⟩)
     (fun _ rest L => (.exit 6, [(134, undef)], rH p A ⟨[], mayN p.q 6, rest.foldl limStep L, nevB p.never, p.most⟩)) (fun _ L => L.length = 6) (by omega) rfl]
    ·rw [e6]
     have eL : p.left.foldl limStep (List.replicate 6 big) = limB p.left := rfl
     rw [eL]
     have hL : (limB p.left).length = 6 := (limB_fold p.left (List.replicate 6 big) (by simp)).1
     have rb := bp_reify (h := rH p A ⟨[], mayN p.q 6, limB p.left, nevB p.never, p.most⟩) (b := ⟨[], mayN p.q 6, limB p.left, nevB p.never, p.most⟩) (A := A) (hb3 _ _ (by simp [mayN]) hL) rfl rfl
     have eb : (⟨A, mayN p.q 6, limB p.left, nevB p.never, p.most⟩ : Bp) = bpOf p.q A := rfl
     simp only [eb] at rb
     simp -implicitDefEqProofs [k52_29, rb]
    ·simp -implicitDefEqProofs [k52_29]
    ·rfl
    ·intro nx i L hi _
     simp -implicitDefEqProofs [r52_29, k52_29, hi, trim_rH1, rH_len]
    ·intro nx i y rest L hi hv hd hw hL ih
     have hi' : (i : Int) < (p.left.length : Int) := by omega
     have xi := ei i hi
     rw [hv, ent_val] at xi
     have hbL := hb3 (mayN p.q 6) L (by simp [mayN]) hL
     have sp : storeT (some 2) (rH p A ⟨[], mayN p.q 6, L, nevB p.never, p.most⟩ ++ [.cells 60 [.string ⟨⟨[]⟩⟩, .int .i64 0] 0]) 0 (.agg ⟨[.string y.1, .int .i64 y.2]⟩) (.pointer (some ⟨3, 0, none⟩)) = some (rH p A ⟨[], mayN p.q 6, L, nevB p.never, p.most⟩ ++ [.cells 60 [.string y.1, .int .i64 y.2] 0]) :=
      (obj_put (h := rH p A ⟨[], mayN p.q 6, L, nevB p.never, p.most⟩ ++ [.cells 60 [.string ⟨⟨[]⟩⟩, .int .i64 0] 0]) (b := 3) (n := 2) (lo := 0) (t := 60) (c := [.string ⟨⟨[]⟩⟩, .int .i64 0]) rfl rfl rfl (by decide) (Nat.zero_le _)).trans rfl
     have la : loadT ⟨some false, some 1⟩ (rH p A ⟨[], mayN p.q 6, L, nevB p.never, p.most⟩ ++ [.cells 60 [.string y.1, .int .i64 y.2] 0]) (.pointer (some ⟨3, 0, none⟩)) = some (.string y.1) := obj_load (b := 3) (j := 0) rfl rfl
     have lb : loadT ⟨some false, some 1⟩ (rH p A ⟨[], mayN p.q 6, L, nevB p.never, p.most⟩ ++ [.cells 60 [.string y.1, .int .i64 y.2] 0]) (.pointer (some ⟨3, 1, none⟩)) = some (.int .i64 y.2) := obj_load (b := 3) (j := 1) rfl rfl
     have us := useIndex_spec y.1
     have ih := ih (limStep L y) (by rw [limStep_len]; exact hL)
     rw [List.foldl_cons]
     unfold limStep at ih ⊢
     rcases idxN_cases y.1 with ⟨h1, _⟩ | ⟨u, hu, h1, _⟩
     ·rw [h1] at us ih ⊢
      rw [if_neg (by decide)] at ih ⊢
      simp -implicitDefEqProofs [k52_29, -List.foldl_cons] at ih
      simp -implicitDefEqProofs [r52_29, k52_29, hi', xi, rH_len, sp, la, ret0 m67, us, hw, trim_rH, bR, bE, bP, bC, bB, -List.all_eq_true]
      exact ih
     ·rw [h1] at us ih ⊢
      rw [if_pos (show (0 : Int) ≤ (u : Int) by omega), Int.toNat_natCast] at ih ⊢
      have huL : u < L.length := by omega
      rw [getD_eq huL] at ih ⊢
      have a7 := a7 u hu
      have hu0 : (0 : Int) ≤ (u : Int) := by omega
      have l7 : loadT ⟨some false, some 1⟩ (rH p A ⟨[], mayN p.q 6, L, nevB p.never, p.most⟩ ++ [.cells 60 [.string y.1, .int .i64 y.2] 0]) (cAt 1 (7 + u)) = some (.int .i64 L[u]) := obj_load (b := 1) (j := 7 + u) rfl (bp_get7 (av := Enc.sl 2 A) hbL hu)
      have s7 := rst (p := p) (A := A) (b' := ⟨[], mayN p.q 6, L.set u (min L[u] y.2), nevB p.never, p.most⟩) hbL (j := 7 + u) (v := .int .i64 (min L[u] y.2)) (by omega) rfl (bp_set7 hbL hu _) [.cells 60 [.string y.1, .int .i64 y.2] 0]
      have mz := minI L[u] y.2
      generalize min L[u] y.2 = z at *
      simp -implicitDefEqProofs [k52_29] at ih
      simp -implicitDefEqProofs [r52_29, k52_29, hi', xi, rH_len, sp, la, lb, ret0 m67, us, hu0, rop_nilT, nilP, a7, l7, mz, s7, hw, trim_rH, bR, bE, bP, bC, bB, -List.all_eq_true]
      exact ih
   ·simp -implicitDefEqProofs [k52_23]
   ·rfl
   ·intro nx u hu6 ih
    by_cases h6 : u < 6
    ·have hu' : (u : Int) < 6 := by omega
     have hw : IntKind.i64.wrap ((u : Int) + 1) = ((u + 1 : Nat) : Int) := (wrap64 (by omega) (by omega)).trans (by omega)
     have ih := ih (u + 1) (by omega) h6
     have a1 := a1 u h6
     have a7 := a7 u h6
     obtain ⟨z, b1, b2, _⟩ := shr_bit (w := p.uses) (u := (u : Int)) ⟨by omega, by omega⟩ ⟨by omega, by omega⟩
     have hbu := hb3 (mayN p.q u) (bigN u) (by simp [mayN]) (by simp [bigN])
     have hbu' := hb3 (mayN p.q (u + 1)) (bigN u) (by simp [mayN]) (by simp [bigN])
     have s1 : storeT (some 1) (rH p A ⟨[], mayN p.q u, bigN u, nevB p.never, p.most⟩) 0 (.bool (bitB p.uses u)) (cAt 1 (1 + u)) = some (rH p A ⟨[], mayN p.q (u + 1), bigN u, nevB p.never, p.most⟩) := rst' hbu (by omega) rfl (by
      have := bp_set1 (av := Enc.sl 2 A) hbu h6 (bitB p.uses u)
      rw [this]
      have e := mayN_set p.q u h6
      show bpC _ ⟨[], (mayN p.q u).set u (bitB p.q.uses u), _, _, _⟩ = _
      rw [e])
     have s7 : storeT (some 1) (rH p A ⟨[], mayN p.q (u + 1), bigN u, nevB p.never, p.most⟩) 0 (.int .i64 9223372036854775807) (cAt 1 (7 + u)) = some (rH p A ⟨[], mayN p.q (u + 1), bigN (u + 1), nevB p.never, p.most⟩) := rst' hbu' (by omega) rfl (by
      have := bp_set7 (av := Enc.sl 2 A) hbu' h6 9223372036854775807
      rw [this]
      have e := bigN_set u h6
      show bpC _ ⟨[], _, (bigN u).set u big, _, _⟩ = _
      rw [e])
     simp -implicitDefEqProofs [k52_23, -Int.natCast_add] at ih
     have eqb : ∀ z : Int, aBin E.P .eql 3 (.int .i64 z) (.int .i64 1) = some (.bool (z == 1)) := fun z => rfl
     cases hbit : bitB p.uses u
     ·rw [hbit] at b2 s1
      simp -implicitDefEqProofs [r52_23, k52_23, hu', lp0, b1, b2, rop_nilT, nilP, a1, a7, s1, s7, hw, trim_rH1, rH_len, -Int.natCast_add]
      exact ih
     ·rw [hbit] at b2 s1
      simp -implicitDefEqProofs [r52_23, k52_23, hu', lp0, b1, b2, rop_nilT, nilP, a1, a7, s1, s7, hw, trim_rH1, rH_len, -Int.natCast_add]
      exact ih
    ·have e : u = 6 := by omega
     subst e
     simp -implicitDefEqProofs [r52_23, k52_23, trim_rH1, rH_len]
  ·simp -implicitDefEqProofs [k52_16]
  ·rfl
  ·intro nx i N hi _
   rw [nevT_nil]
   simp -implicitDefEqProofs [r52_16, k52_16, hi, trim_rH1, rH_len]
  ·intro nx i y rest N hi hv hd hw hN ih
   have hi' : (i : Int) < (p.never.length : Int) := by omega
   have xi := pi i hi
   rw [hv, pair_val] at xi
   have sp : ∀ b : Bp, storeT (some 2) (rH p A b ++ [.cells 61 [.int .i64 0, .int .i64 0] 0]) 0 (.agg ⟨[.int .i64 y.1, .int .i64 y.2]⟩) (.pointer (some ⟨3, 0, none⟩)) = some (rH p A b ++ [.cells 61 [.int .i64 y.1, .int .i64 y.2] 0]) := fun b =>
    (obj_put (h := rH p A b ++ [.cells 61 [.int .i64 0, .int .i64 0] 0]) (b := 3) (n := 2) (lo := 0) (t := 61) (c := [.int .i64 0, .int .i64 0]) rfl rfl rfl (by decide) (Nat.zero_le _)).trans rfl
   have la : ∀ b : Bp, loadT ⟨some false, some 1⟩ (rH p A b ++ [.cells 61 [.int .i64 y.1, .int .i64 y.2] 0]) (cAt 3 0) = some (.int .i64 y.1) := fun b => obj_load (b := 3) (j := 0) rfl rfl
   have lb : ∀ b : Bp, loadT ⟨some false, some 1⟩ (rH p A b ++ [.cells 61 [.int .i64 y.1, .int .i64 y.2] 0]) (cAt 3 1) = some (.int .i64 y.2) := fun b => obj_load (b := 3) (j := 1) rfl rfl
   have i0 : indexAddrT (.arr 2 ⟨some false, some 1⟩) (.pointer (some ⟨3, 0, none⟩)) (.int .i64 0) = some (cAt 3 0) := arr2_i 3 0 (by decide)
   have i1 : indexAddrT (.arr 2 ⟨some false, some 1⟩) (.pointer (some ⟨3, 0, none⟩)) (.int .i64 1) = some (cAt 3 1) := arr2_i 3 1 (by decide)
   rw [List.any_cons]
   by_cases k1 : min y.1 y.2 < 0
   ·have hb : badP y = true := by unfold badP; rw [decide_eq_true k1]; rfl
    rw [hb, nevT_bad N y rest hb]
    simp -implicitDefEqProofs [r52_16, k52_16, hi', xi, rH_len, sp, la, lb, i0, i1, minI, k1, fp, trim_rH, bR, bE, bP, bC, bB, -List.all_eq_true, -List.any_eq_true, -List.any_eq_false]
   by_cases k2 : 6 ≤ max y.1 y.2
   ·have hb : badP y = true := by unfold badP; rw [decide_eq_true k2, Bool.or_true]
    rw [hb, nevT_bad N y rest hb]
    simp -implicitDefEqProofs [r52_16, k52_16, hi', xi, rH_len, sp, la, lb, i0, i1, minI, maxI, k1, k2, fp, trim_rH, bR, bE, bP, bC, bB, -List.all_eq_true, -List.any_eq_true, -List.any_eq_false]
   ·have hb : badP y = false := by unfold badP; rw [decide_eq_false k1, decide_eq_false k2]; rfl
    obtain ⟨m1, m2, m3, m4⟩ := min_any hb
    rw [hb, nevT_ok N y rest hb]
    have ih := ih (nevStep N y) (by unfold nevStep; rw [List.length_set, hN])
    obtain ⟨a, j1, j2⟩ := nev_index ⟨m1, m2⟩ ⟨m3, m4⟩
    have hb1 := hbN N hN
    have st := fun e => rst (p := p) (A := A) (b' := ⟨[], f6, z6, nevStep N y, p.most⟩) hb1 (j := 13 + (6 * y.1.toNat + y.2.toNat)) (v := .bool true) (by omega) rfl (bp_set13 hb1 (by omega) true) e
    simp -implicitDefEqProofs [k52_16, -List.any_eq_true, -List.any_eq_false] at ih
    simp -implicitDefEqProofs [r52_16, k52_16, hi', xi, rH_len, sp, la, lb, i0, i1, minI, maxI, k1, k2, rop_nilT, nilP, j1, j2, st, hw, trim_rH, bR, bE, bP, bC, bB, -List.all_eq_true, -List.any_eq_true, -List.any_eq_false]
    exact ih
 ·simp -implicitDefEqProofs [k52_6]
 ·rfl
 ·intro nx i c hi _
  rw [gT_nil]
  simp -implicitDefEqProofs [r52_6, k52_6, hi, trim_rH1, rH_len]
 ·intro nx i r rest c hi hv hd hw hc ih
  have hi' : (i : Int) < (P.length : Int) := by omega
  have xi := ix i hi
  rw [hv] at xi
  have hr : r ∈ P := hv ▸ List.getElem_mem hi
  have lv := fun h => rooms_load h r
  have rr := fun h => room_reify h r
  have s1 := room_right r (hP.ok r hr) (hP.few r hr)
  have s2 := room_area r (hP.ok r hr) (hP.few r hr)
  rw [List.all_cons]
  cases hg : regB r.2 with
  | false =>
   rw [hg] at s1
   rw [gT_bad c r rest hg]
   simp -implicitDefEqProofs [r52_6, k52_6, hi', xi, lv, ret0 m38, rr, s1, fp, trim_rH1, rH_len, -List.all_eq_true]
  | true =>
   rw [hg] at s1
   have s2 := s2 hg
   cases hz : (c.1 || decide (areaL r.2 = 0))
   ·rw [gT_add c r rest hg hz]
    have ih := ih (false, c.2 ++ [areaL r.2]) (by rw [List.length_append]; exact Nat.add_le_add_right hc 1)
    obtain ⟨ce, acc⟩ := c
    rw [Bool.or_eq_false_iff] at hz
    obtain ⟨hz1, hz2⟩ := hz
    simp only at hz1 ih hc ⊢
    subst hz1
    have hz2 := of_decide_eq_false hz2
    have lc : loadT ⟨some false, some 1⟩ (rH p acc (p0 p.most)) (.pointer (some ⟨1, 0, none⟩)) = some (Enc.sl 2 acc) := obj_load (b := 1) (j := 0) rfl rfl
    have li := fun h => lit_int h (areaL r.2)
    have ap := ap_r p acc (p0 p.most) (areaL r.2) (by omega)
    have st := st_r p acc (p0 p.most) (p0_l hm) (areaL r.2)
    simp -implicitDefEqProofs [k52_6, -List.all_eq_true] at ih
    simp -implicitDefEqProofs [r52_6, k52_6, hi', xi, lv, ret0 m38, ret0 m39, rr, s1, s2, hz2, rop_nilT, nilP, lc, li, ap, st, hw, trim_rH1, rH_len, -List.all_eq_true]
    exact ih
   ·rw [gT_end c r rest hg hz]
    have ih := ih (true, c.2) (Nat.le_succ_of_le hc)
    obtain ⟨ce, acc⟩ := c
    simp only at hz ih hc ⊢
    simp -implicitDefEqProofs [k52_6, -List.all_eq_true] at ih
    cases ce
    ·have hz : areaL r.2 = 0 := by simpa using hz
     rw [hz] at s2
     simp -implicitDefEqProofs [r52_6, k52_6, hi', xi, lv, ret0 m38, ret0 m39, rr, s1, s2, hw, trim_rH1, rH_len, -List.all_eq_true]
     exact ih
    ·simp -implicitDefEqProofs [r52_6, k52_6, hi', xi, lv, ret0 m38, ret0 m39, rr, s1, s2, hw, trim_rH1, rH_len, -List.all_eq_true]
     exact ih
end Go.Proofs.Ytcnafncmfiogcaa.Bm
namespace Go.Proofs.Ytcnafncmfiogcaa.Bm
open Go Go.RowKit
open Cp (Q Nd Br nameB limS limQ mayQ prQ validQ badP hasP bitB next run root take us conts reach prv forest)
def bsE (x : BS) : List Value := [.int .i64 (x.U.getD 0 0), .int .i64 (x.U.getD 1 0), .int .i64 (x.U.getD 2 0), .int .i64 (x.U.getD 3 0), .int .i64 (x.U.getD 4 0), .int .i64 (x.U.getD 5 0), .int .i64 x.v, .int .i64 x.l, .int .i64 x.k]
def stR : Rec BS where
 enc := bsE
 m := 8
 len _ := rfl
 set _ := rfl
 bel _ _ := rfl
theorem bsE_c {x : BS} (h : x.U.length = 6) : bsE x = x.c := by
 obtain ⟨U, v, l, k⟩ := x
 match U, h with
 | [a, b, c, d, e, f], _ => rfl
theorem stR_val {x : BS} (h : x.U.length = 6) : stR.val x = x.V := by
 show Value.agg ⟨bsE x⟩ = .agg ⟨x.c⟩
 rw [bsE_c h]
abbrev elBS : El := ⟨84, 9, 72, .agg ⟨[.int .i64 0, .int .i64 0, .int .i64 0, .int .i64 0, .int .i64 0, .int .i64 0, .int .i64 0, .int .i64 0, .int .i64 0]⟩, ⟨some true, some 9⟩⟩
theorem lit_st (h : Heap) {x : BS} (hx : x.U.length = 6) : buildSliceT (some elBS) false h 1 #[(0, x.V)] = some (lst true (stR.vals [x]), h) := by
 have e : x.V = .agg ⟨bsE x⟩ := (stR_val hx).symm
 rw [e]
 exact (build_lit' (n := 1) (l := [(0, .agg ⟨bsE x⟩)]) rfl rfl (by decide) (by decide) (by decide)).trans rfl
def HB (h : Heap) : Prop := ∀ n, h.length ≤ n → h.all (belowO n) = true
theorem HB.app {h : Heap} {l : Heap} (hb : HB h) (hl : ∀ o ∈ l, ∀ n, belowO n o = true) : HB (h ++ l) := fun n hn => by
 rw [List.length_append] at hn
 rw [List.all_append, hb n (by omega), List.all_eq_true.2 fun o ho => hl o ho n]; rfl
theorem HB.set {h : Heap} (hb : HB h) {i : Nat} {o : AObj} (ho : ∀ n, belowO n o = true) : HB (h.set i o) := fun n hn => by
 rw [List.length_set] at hn
 have := hb n hn
 rw [List.all_eq_true] at this ⊢
 intro q hq
 rcases List.mem_or_eq_of_mem_set hq with k | k
 ·exact this q k
 ·rw [k]; exact ho n
theorem trim_K {H e : Heap} {l : List Value} {n : Nat} (hn : H.length = n) (hb : HB H) (hl : l.all (below 8 n) = true) : trim n l (H ++ e) = H := by
 unfold Bm.trim
 split
 ·rename_i h
  rw [List.length_append] at h
  have : e = [] := List.eq_nil_of_length_eq_zero (by omega)
  rw [this, List.append_nil]
 ·have e1 : (H ++ e).take n = H := List.take_left' hn
  rw [e1, if_pos]
  show (l.all (below 8 n) && H.all (belowO n)) = true
  rw [hl, hb n (by omega)]; rfl
theorem trim_K0 {H : Heap} {l : List Value} {n : Nat} (hn : H.length = n) : trim n l H = H := by
 unfold Bm.trim
 rw [if_pos (by omega)]
def HK (h : Heap) (x : BS) (K : List BS) : Heap := h ++ [.cells 84 x.c 0, stR.row 84 K]
def kS (h : Heap) (K : List BS) : Value := stR.sl (h.length + 1) K
section
variable {h : Heap} {x : BS} {K : List BS}
theorem HK_len : (HK h x K).length = h.length + 2 := by unfold HK; simp
theorem HK_get0 : (HK h x K)[h.length]? = some (.cells 84 x.c 0) := app_get0
theorem HK_get1 : (HK h x K)[h.length + 1]? = some (stR.row 84 K) := app_get1
theorem bs_obel (x : BS) (n : Nat) : belowO n (.cells 84 x.c 0) = true := bs_bel x 7 n
theorem HK_hb (hb : HB h) : HB (HK h x K) := hb.app fun o ho n => by
 simp only [List.mem_cons, List.not_mem_nil, or_false] at ho
 rcases ho with rfl | rfl
 ·exact bs_obel x n
 ·exact Rec.row_bel K
theorem HK_set {i : Nat} {o : AObj} (hi : i < h.length) : (HK h x K).set i o = HK (h.set i o) x K := by
 unfold HK
 rw [List.set_append_left _ _ hi]
theorem HK_setE {i : Nat} {o : AObj} {e : Heap} (hi : i < h.length) : (HK h x K ++ e).set i o = HK (h.set i o) x K ++ e := by
 rw [List.set_append_left _ _ (by rw [HK_len]; omega), HK_set hi]
theorem HK_get {i : Nat} (hi : i < h.length) : (HK h x K)[i]? = h[i]? := by unfold HK; rw [List.getElem?_append_left hi]
theorem get_app {H e : Heap} {i : Nat} {o : AObj} (h : H[i]? = some o) : (H ++ e)[i]? = some o := by rw [List.getElem?_append_left (List.getElem?_eq_some_iff.1 h).1]; exact h
theorem HK_ldx0 (hx : x.U.length = 6) : loadT ⟨some true, some 9⟩ (HK h x K) (.pointer (some ⟨h.length, 0, none⟩)) = some x.V := obj_all HK_get0 (bs_len hx)
theorem HK_ld6 (hx : x.U.length = 6) : loadT ⟨some false, some 1⟩ (HK h x K) (.pointer (some ⟨h.length, 6, none⟩)) = some (.int .i64 x.v) := obj_load HK_get0 (bs_get6 hx)
theorem HK_new {o : AObj} : (HK h x K ++ [o])[h.length + 2]? = some o := by
 rw [List.getElem?_append_right (by rw [HK_len]; omega), HK_len, Nat.sub_self]; rfl
theorem HK_newset {o q : AObj} : (HK h x K ++ [o]).set (h.length + 2) q = HK h x K ++ [q] := by
 rw [List.set_append_right _ _ (by rw [HK_len]; omega), HK_len, Nat.sub_self]; rfl
theorem HK_st {y z : BS} (hy : y.U.length = 6) (hz : z.U.length = 6) : storeT (some 9) (HK h x K ++ [.cells 84 y.c 0]) 0 z.V (.pointer (some ⟨h.length + 2, 0, none⟩)) = some (HK h x K ++ [.cells 84 z.c 0]) := by
 refine (obj_put (lo := 0) (HK_new (o := .cells 84 y.c 0)) (bs_len hy) (bs_len hz) (by decide) (Nat.zero_le _)).trans ?_
 rw [HK_newset]
theorem HK_ldn {y : BS} (hy : y.U.length = 6) : loadT ⟨some true, some 9⟩ (HK h x K ++ [.cells 84 y.c 0]) (.pointer (some ⟨h.length + 2, 0, none⟩)) = some y.V := obj_all HK_new (bs_len hy)
theorem HK_app {y : BS} {o : AObj} (hK : K.length ≤ 1000) : appendT (some elBS) (HK h x K ++ [o]) 0 false (kS h K) (lst true (stR.vals [y])) = some (kS h (K ++ [y]), HK h x (K ++ [y]) ++ [o]) := by
 have := Rec.app (R := stR) (el := elBS) (h := HK h x K ++ [o]) (lo := 0) (b := h.length + 1) (t := 84) (acc := K) (m := [y]) rfl (get_app HK_get1) (Rec.cells_tree (R := stR) (x := true) (s := 9) rfl [y]) (Nat.zero_le _) (by show (K.length + 1) * 72 ≤ 2 ^ 47; omega)
 refine this.trans ?_
 unfold kS
 congr 2
 unfold HK
 rw [List.append_assoc, List.set_append_right _ _ (by omega), show h.length + 1 - h.length = 1 by omega, List.append_assoc]; rfl
theorem kS_len {H : Heap} : lenT .sl H (kS h K) = some (.int .i64 K.length) := Rec.sl_len
theorem kS_ix {H : Heap} {e : Heap} (hH : H = HK h x K ++ e) {i : Nat} (hi : i < K.length) (hU : K[i].U.length = 6) : ∃ a, indexAddrT (.sl 84 ⟨some true, some 9⟩) (kS h K) (.int .i64 (i : Int)) = some a ∧ loadT ⟨some true, some 9⟩ H a = some K[i].V := by
 subst hH
 refine ⟨_, Rec.index_row (R := stR) rfl hi, ?_⟩
 rw [Rec.load_row (R := stR) (n := 9) rfl (get_app HK_get1) hi, stR_val hU]
end
end Go.Proofs.Ytcnafncmfiogcaa.Bm
namespace Go.Proofs.Ytcnafncmfiogcaa.Bm
open Go Go.RowKit
open Rg (Rect)
open Cp (Q Br prQ validQ best)
def rm (n : Int) : Option Bool × List Rect := (some true, [⟨0, 0, n, 1⟩])
theorem pb_b2 (a b : Int) : buildT (.fs ⟨[.int .i64 0, .slice none 0 0, .int .i64 0, .slice none 0 0]⟩ ⟨[(0, 1), (1, 1), (2, 1), (3, 1)]⟩) #[(0, .int .i64 a), (2, .int .i64 b)] = some (.agg ⟨[.int .i64 a, .slice none 0 0, .int .i64 b, .slice none 0 0]⟩) := rfl
theorem sg2 (a b : Int) : settled depth (.agg ⟨[.int .i64 a, .slice none 0 0, .int .i64 b, .slice none 0 0]⟩) = true := rfl
theorem lit_i2 (h : Heap) (a b : Int) : buildSliceT (some elInt) false h 2 #[(0, .int .i64 a), (1, .int .i64 b)] = some (lst true [.int .i64 a, .int .i64 b], h) :=
 (build_lit' (n := 2) (l := [(0, .int .i64 a), (1, .int .i64 b)]) rfl rfl (by decide) (by decide) (by decide)).trans rfl
abbrev elRs : El := ⟨62, 1, 24, .slice none 0 0, ⟨some false, some 1⟩⟩
end Go.Proofs.Ytcnafncmfiogcaa.Bm
namespace Go.Proofs.Ytcnafncmfiogcaa.Bm
open Go Go.RowKit
open Rg (Rect)
open Cp (Q Br Nd VB prQ validQ best sr kidsU conts us inA)
def nodes : Nat → Nat
 | 0 => 1
 | n + 1 => 1 + 6 * nodes n
theorem conts_len (P : Cp.Pr) (s : Nd) : (conts P s).length ≤ 6 := by
 unfold conts
 exact List.length_filterMap_le _ _
theorem run_us {q : Q} : ∀ {c : List Int} {s t : Nd}, Cp.run (prQ q) s c = some t → ∀ u ∈ c, 0 ≤ u ∧ u ≤ 5
 | [], _, _, _ => fun u hu => by cases hu
 | w :: c, s, t, h => fun u hu => by
  obtain ⟨s1, h1, h2⟩ := Cp.run_step h
  rcases List.mem_cons.1 hu with rfl | hu
  ·obtain ⟨_, _, _, _, hm, _⟩ := Cp.next_some h1
   have hm : Cp.mayQ q s.c.getLast? u = true := hm
   have := Cp.may_ge hm
   omega
  ·exact run_us h2 u hu
structure Args (P : Rooms) (p : Pb) : Prop where
 ok : ∀ r ∈ P, Rec.Ok r.1 r.2
 len : P.length ≤ maxLen
 kl : Rec.Ok p.kl p.left
 kn : Rec.Ok p.kn p.never
 u : -9223372036854775808 ≤ p.uses ∧ p.uses ≤ 9223372036854775807
 m : -9223372036854775808 ≤ p.most ∧ p.most ≤ 9223372036854775807
def fewB (P : Rooms) (p : Pb) : Bool := P.all (fun r => decide (r.2.length ≤ 16)) && (decide (P.length ≤ 13) && (decide (p.left.length ≤ 40) && decide (p.never.length ≤ 40)))
theorem Args.few {P : Rooms} {p : Pb} (a : Args P p) (x : Bool) : pureCall E.P (L E) 13 [roomsV x P, .agg ⟨p.cells⟩] = some (.bool (fewB P p)) := few_spec x P p a.kl a.kn a.ok a.len
theorem Args.get {P : Rooms} {p : Pb} (a : Args P p) (h : fewB P p = true) : RoomsOk P ∧ PbOk p := by
 unfold fewB at h
 simp only [Bool.and_eq_true, decide_eq_true_eq, List.all_eq_true] at h
 exact ⟨⟨a.ok, h.1, h.2.1⟩, ⟨a.kl, a.kn, a.u, a.m, h.2.2.1, h.2.2.2⟩⟩
theorem rooms_reify (x : Bool) (P : Rooms) (h : Heap) : reify E.P 8 h (roomsV x P) = some (roomsV x P) := by unfold roomsV; rfl
end Go.Proofs.Ytcnafncmfiogcaa.Bm
namespace Go.Proofs.Ytcnafncmfiogcaa.Bm
open Go Go.RowKit
open Rg (Rect)
open Cp (Q Br prQ validQ best fitS fitR)
theorem neqB (a b c d : Int) : aBin E.P .neq 41 (.agg ⟨[.int .i64 a, .int .i64 b]⟩) (.agg ⟨[.int .i64 c, .int .i64 d]⟩) = (allOf [some (a == c), some (b == d)]).map fun b => .bool (!b) := by kernel_rfl
end Go.Proofs.Ytcnafncmfiogcaa.Bm
namespace Go.Proofs.Ytcnafncmfiogcaa.Cp
def stepK : List Int → Int → Option (List Int)
 | [], _ => none
 | c :: st, k => if c = 0 then stepK st k else some (k :: (c - 1) :: st)
def runK : List Int → List Br → Option (List Int)
 | S, [] => some S
 | S, b :: l => match stepK S b.kids with | none => none | some S' => runK S' l
def Zs (z : List Int) : Prop := ∀ x ∈ z, x = 0
end Go.Proofs.Ytcnafncmfiogcaa.Cp
namespace Go.Proofs.Ytcnafncmfiogcaa.Bm
open Go Go.RowKit
section
variable {h : Heap} {b : Nat} {v : Value} {l m : List Int} {x y : Int}
end
end Go.Proofs.Ytcnafncmfiogcaa.Bm
namespace Go.Proofs.Ytcnafncmfiogcaa.Bm
open Go Go.RowKit
open Cp (Br stepK runK Zs prQ validQ best)
theorem LL_ux {k : List Nat × List Nat} {b : Body} {σ₀ : Slots} {h₀ : Heap} {α U : Type} (a₀ : α) (up : α → List (Nat × Value)) (H : α → Heap) (e : Exit) (ups : U → List (Nat × Value)) (K : U → Heap → Prop) (I : α → Prop) (ms : α → Nat)
  (hI : I a₀) (e0 : sets (up a₀) (forget k.1 σ₀) = forget k.1 σ₀) (e1 : H a₀ = h₀)
  (step : ∀ (nx : Body) a, I a → (∀ a', ms a' < ms a → I a' → ∃ u h', nx (sets (up a') (forget k.1 σ₀)) (H a') = fin (forget k.1 σ₀) (e, ups u, h') ∧ K u h') →
   ∃ u h', lopK k.1 k.2 nx (H a).length (b (forget k.1 (sets (up a) (forget k.1 σ₀))) (H a)) = fin (forget k.1 σ₀) (e, ups u, h') ∧ K u h') :
  ∃ u h', LL k b σ₀ h₀ = fin (forget k.1 σ₀) (e, ups u, h') ∧ K u h' := by
 obtain ⟨r, h1, u, h', h2, h3⟩ := LL_ex (k := k) (b := b) (σ₀ := σ₀) (h₀ := h₀) a₀ up H (fun r => ∃ u h', some r = fin (forget k.1 σ₀) (e, ups u, h') ∧ K u h') I ms hI e0 e1 fun nx a ha ih => by
  obtain ⟨u, h', he, hk⟩ := step nx a ha fun a' hlt hi' => by
   obtain ⟨r, h1, u, h', h2, h3⟩ := ih a' hlt hi'
   exact ⟨u, h', h1.trans h2, h3⟩
  exact ⟨_, he, u, h', rfl, hk⟩
 exact ⟨u, h', h1.trans h2, h3⟩
theorem ux_goal {U : Type} {G : CRes → Prop} {X : CRes} {F : U → Heap → CRes} {K : U → Heap → Prop} (h : ∃ u h', X = F u h' ∧ K u h') (k : ∀ u h', K u h' → G (F u h')) : G X := by
 obtain ⟨u, h', rfl, hk⟩ := h
 exact k u h' hk
end Go.Proofs.Ytcnafncmfiogcaa.Bm
