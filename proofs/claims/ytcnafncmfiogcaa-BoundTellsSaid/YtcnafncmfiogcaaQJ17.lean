/-
 Loops of which only a property of the end is told. Conditions: each lemma says its own.
-/
import Derived.Test.YtcnafncmfiogcaaQJ14
import Derived.Test.YtcnafncmfiogcaaQJ15
import Derived.Test.YtcnafncmfiogcaaQJ01
import Derived.Test.YtcnafncmfiogcaaQJ16
import Derived.Test.YtcnafncmfiogcaaQJ13
namespace Go.Proofs.Ytcnafncmfiogcaa.Bm
open Go Go.RowKit
structure Enc (α : Type) where
 e : α → Value
 one : ∀ a, one (e a) = true
 set : ∀ a n, settled (n + 1) (e a) = true
 bel : ∀ a d n, below (d + 1) n (e a) = true
 fits : ∀ a sz, fitsTT ⟨some false, sz⟩ (e a) = true
namespace Enc
variable {α : Type} {O : Enc α} {h : Heap} {l m : List α} {P : Program}
def vals (O : Enc α) (l : List α) : List Value := l.map O.e
def o (O : Enc α) (k : Option Bool) (l : List α) : Value := match k with | none => .slice none 0 0 | some b => lst b (O.vals l)
def Ok (k : Option Bool) (l : List α) : Prop := k = none → l = []
theorem ok_some {b : Bool} : Ok (some b) l := fun h => by cases h
theorem ok_nil {k : Option Bool} : Ok k ([] : List α) := fun _ => rfl
def row (O : Enc α) (t : TypeId) (l : List α) : AObj := .cells t (O.vals l) 1
def part (b n : Nat) (l : List α) : Value := .slice (some ⟨b, 0, some l.length⟩) n l.length
def sl (b : Nat) (l : List α) : Value := .slice (some ⟨b, 0, some l.length⟩) l.length l.length
def at_ (b : Nat) (l : List α) (i : Nat) : Value := .pointer (some ⟨b, i, some l.length⟩)
theorem vals_len : (O.vals l).length = l.length := List.length_map _
theorem vals_app : O.vals (l ++ m) = O.vals l ++ O.vals m := List.map_append
theorem e_cells (a : α) : cellsL (O.e a) = [O.e a] := by
 have := O.one a
 unfold cellsL
 split
 ·rename_i h; rw [h] at this; cases this
 ·rfl
theorem vals_all (l : List α) : (O.vals l).all (fun v => (cellsL v).length == 1) = true := by
 rw [List.all_eq_true]
 intro v hv
 obtain ⟨a, _, rfl⟩ := List.mem_map.1 hv
 rw [e_cells]; rfl
theorem vals_set (l : List α) : (O.vals l).all (settled 8) = true := by
 rw [List.all_eq_true]
 intro v hv
 obtain ⟨a, _, rfl⟩ := List.mem_map.1 hv
 exact O.set a 7
theorem vals_flat : ∀ l : List α, (O.vals l).flatMap cellsL = O.vals l
 | [] => rfl
 | a :: l => by
  show cellsL (O.e a) ++ (O.vals l).flatMap cellsL = O.e a :: O.vals l
  rw [e_cells, vals_flat l]; rfl
theorem vals_get {i : Nat} (hi : i < l.length) : (O.vals l)[i]? = some (O.e l[i]) := by
 unfold vals; rw [List.getElem?_map, List.getElem?_eq_getElem hi]; rfl
theorem vals_take (n : Nat) : (O.vals l).take n = O.vals (l.take n) := by unfold vals; rw [List.map_take]
theorem vals_drop (n : Nat) : (O.vals l).drop n = O.vals (l.drop n) := by unfold vals; rw [List.map_drop]
theorem vals_put {i : Nat} {a : α} : (O.vals l).set i (O.e a) = O.vals (l.set i a) := by unfold vals; rw [List.map_set]
theorem o_len {k : Option Bool} (hk : Ok k l) : lenT .sl h (O.o k l) = some (.int .i64 l.length) := by
 cases k with
 | none => rw [hk rfl]; rfl
 | some b => show lenT .sl h (lst b (O.vals l)) = _; rw [len_lst, vals_len]
theorem o_one {k : Option Bool} : Bm.one (O.o k l) = true := by cases k <;> rfl
theorem o_set {k : Option Bool} {n : Nat} : settled (n + 1) (O.o k l) = true := by cases k <;> rfl
theorem o_bel {k : Option Bool} {d n : Nat} : below (d + 1) n (O.o k l) = true := by cases k <;> rfl
theorem o_fits {k : Option Bool} {sz : Option Nat} : fitsTT ⟨some false, sz⟩ (O.o k l) = true := by cases k <;> rfl
theorem o_reify {k : Option Bool} {n : Nat} : reify P (n + 1) h (O.o k l) = some (O.o k l) := by cases k <;> rfl
theorem cells_tree {x : Bool} : sliceCells h 1 (lst x (O.vals l)) = some (O.vals l, l.length) := by
 rw [cells_lst (vals_all l), vals_flat, vals_len]
theorem cells_o {k : Option Bool} (hk : Ok k l) : sliceCells h 1 (O.o k l) = some (O.vals l, l.length) := by
 cases k with
 | none => rw [hk rfl]; rfl
 | some b => exact cells_tree
theorem index_tree {x : Bool} {t : TypeId} {i : Nat} {k : IntKind} (hi : i < l.length) : indexAddrT (.sl t ⟨some false, some 1⟩) (lst x (O.vals l)) (.int k (i : Int)) = some (cptr (O.e l[i])) := by
 rw [index_lst, if_pos (by omega), Int.toNat_natCast, vals_get hi, Option.bind_some, O.fits, e_cells]; rfl
theorem index_o {x : Option Bool} {t : TypeId} {i : Nat} {k : IntKind} (hx : Ok x l) (hi : i < l.length) : indexAddrT (.sl t ⟨some false, some 1⟩) (O.o x l) (.int k (i : Int)) = some (cptr (O.e l[i])) := by
 cases x with
 | none => rw [hx rfl] at hi; exact absurd hi (Nat.not_lt_zero i)
 | some b => exact index_tree hi
theorem drop_tree {x : Bool} {t : TypeId} {g : Option Bool} {n : Nat} {z : Int} {k : IntKind} (hz : z = (n : Nat)) (hn : n ≤ l.length) : sliceT (.sl t ⟨g, some 1⟩) h (lst x (O.vals l)) (some (.int k z)) none none = some (lst x (O.vals (l.drop n))) := by
 rw [slice_drop (vals_all l) hz (by rw [vals_len]; exact hn), vals_drop]
theorem row_bel {n : Nat} {t : TypeId} : belowO n (O.row t l) = true := by
 show (O.vals l).all (below 8 n) = true
 rw [List.all_eq_true]
 intro v hv
 obtain ⟨a, _, rfl⟩ := List.mem_map.1 hv
 exact O.bel a 7 n
theorem sl_bel {n d b : Nat} (hb : b < n) : below (d + 1) n (sl b l) = true := decide_eq_true hb
theorem sl_len {b : Nat} : lenT .sl h (sl b l) = some (.int .i64 l.length) := rfl
theorem fits_row {b n : Nat} {t : TypeId} (hob : h[b]? = some (O.row t l)) (hn : n = l.length) {off : Nat} : fitsRow h ⟨b, off, some n⟩ 1 = true := by
 subst hn
 unfold fitsRow
 show (match h[b]? with | some (.cells _ c g) => _ | _ => false) = true
 rw [hob]
 show (stampOk _ 1 (O.vals l).length && _) = true
 unfold stampOk; rw [vals_len]; simp
theorem reify_part {b n d : Nat} {t : TypeId} (hob : h[b]? = some (O.row t l)) (hn : n ≤ l.length) (hs : szOf P t = some 1) (ha : aggT P t = some false) : reify P (d + 1) h (part b n l) = some (lst false (O.vals (l.take n))) := by
 unfold part
 rw [reify_slice]
 by_cases h0 : n = 0
 ·subst h0; rfl
 ·rw [if_neg h0]
  show reifyS P d h h[b]? _ _ = _
  rw [hob]
  show reifyS P d h (some (.cells t (O.vals l) 1)) _ _ = _
  rw [reifyS_cells, hs, Option.bind_some, if_pos ⟨by unfold stampOk; rw [vals_len]; simp, Nat.one_pos, by rw [vals_len]; simp; omega⟩, List.drop_zero, Nat.mul_one, vals_take,
   reifyC_set (vals_set _), Option.bind_some, elems_one ha hs]; rfl
theorem reify_sl {b d : Nat} {t : TypeId} (hob : h[b]? = some (O.row t l)) (hs : szOf P t = some 1) (ha : aggT P t = some false) : reify P (d + 1) h (sl b l) = some (lst false (O.vals l)) := by
 have := reify_part (P := P) (d := d) hob (Nat.le_refl l.length) hs ha
 rw [List.take_length] at this
 exact this
theorem reifyR_sl {b : Nat} {t : TypeId} (hob : h[b]? = some (O.row t l)) (hs : szOf P t = some 1) (ha : aggT P t = some false) : reifyR P h (sl b l) = some (lst false (O.vals l)) := reify_sl hob hs ha
theorem frz_part {b n lo : Nat} {t : TypeId} (hob : h[b]? = some (O.row t l)) (hn : n ≤ l.length) (hs : szOf P t = some 1) (ha : aggT P t = some false) (hlo : lo ≤ b) :
  freezeV P depth lo h (part b n l) = some (lst false (O.vals (l.take n)), if n = 0 then h else h.set b .dead) := by
 have e : ((O.vals l).drop 0).take (n * 1) = O.vals (l.take n) := by rw [List.drop_zero, Nat.mul_one, vals_take]
 exact frz_row1 (a := ⟨b, 0, some l.length⟩) (t := t) (c := O.vals l) (g := 1) hob hs hlo (by unfold stampOk; rw [vals_len]; simp) Nat.one_pos (by rw [vals_len]; simp; omega) (by rw [e]; exact vals_set _)
  (by rw [e]; exact elems_one ha hs) (by rw [vals_len, List.length_take]; omega)
theorem frz_sl {b lo : Nat} {t : TypeId} (hob : h[b]? = some (O.row t l)) (hs : szOf P t = some 1) (ha : aggT P t = some false) (hlo : lo ≤ b) :
  freezeV P depth lo h (sl b l) = some (lst false (O.vals l), if l.length = 0 then h else h.set b .dead) := by
 have := frz_part (P := P) (lo := lo) hob (Nat.le_refl l.length) hs ha hlo
 rw [List.take_length] at this
 exact this
theorem app {el : El} {lo b : Nat} {t : TypeId} {u : Value} (hel : el.size = 1) (hob : h[b]? = some (O.row t l)) (hu : sliceCells h 1 u = some (O.vals m, m.length)) (hlo : lo ≤ b) (hb : (l.length + m.length) * el.bytes ≤ 2 ^ 47) :
  appendT (some el) h lo false (sl b l) u = some (sl b (l ++ m), h.set b (O.row t (l ++ m))) := by
 have hob' : h[b]? = some (.cells t (O.vals l) 1) := hob
 unfold sl
 rw [append_slice, hel, hu]
 show appS el h lo false _ _ _ h[b]? _ = _
 by_cases hm : m.length = 0
 ·have : m = [] := List.eq_nil_of_length_eq_zero hm
  subst this
  have hf : fitsRow h ⟨b, 0, some l.length⟩ el.size = true := by rw [hel]; exact fits_row hob rfl
  unfold appS
  simp only [List.append_nil, List.length_nil, Nat.add_zero, Nat.le_refl, if_true, hf, Option.bind_some]
  congr 2
  refine (List.ext_getElem? fun i => ?_)
  rw [List.getElem?_set]
  split
  ·rename_i e; subst e
   split
   ·exact hob
   ·rename_i hlt; rw [List.getElem?_eq_none (by omega)]
  ·rfl
 ·rw [hob']
  refine (appS_grown (m := m.length) hm vals_len.symm rfl hel (by rw [vals_len]; omega) hlo hb).trans ?_
  unfold row
  rw [vals_app, List.length_append, vals_len, vals_len, List.length_append]
theorem app_room {el : El} {lo b i : Nat} {t : TypeId} {u : Value} (hel : el.size = 1) (hob : h[b]? = some (O.row t l)) (hu : sliceCells h 1 u = some (O.vals m, m.length)) (hm : m ≠ []) (hlo : lo ≤ b) (hi : i + m.length ≤ l.length) :
  appendT (some el) h lo false (part b i l) u = some (part b (i + m.length) (l.take i ++ m ++ l.drop (i + m.length)), h.set b (O.row t (l.take i ++ m ++ l.drop (i + m.length)))) := by
 have hob' : h[b]? = some (.cells t (O.vals l) 1) := hob
 have hm0 : m.length ≠ 0 := fun e => hm (List.eq_nil_of_length_eq_zero e)
 have hf : fitsRow h ⟨b, 0, some l.length⟩ el.size = true := by rw [hel]; exact fits_row hob rfl
 have hlen : (l.take i ++ m ++ l.drop (i + m.length)).length = l.length := by simp; omega
 unfold part
 rw [append_slice, hel, hu]
 show appS el h lo false _ _ _ h[b]? _ = _
 unfold appS
 simp only [Option.bind_some]
 rw [if_pos hi, if_neg hm0, hf]
 simp only [Bool.not_true, Bool.or_false, Bool.false_eq_true, if_false]
 unfold wrN
 show Option.map _ (match h[b]? with | some (.cells t c g) => _ | _ => none) = _
 rw [hob']
 show Option.map _ (if _ then _ else none) = _
 rw [if_pos ⟨hlo, by unfold shift stampOk; rw [vals_len]; simp, by rw [vals_len]; omega, by unfold shift; rw [vals_len, vals_len, hel]; simp; omega⟩]
 show some (_, h.set b (.cells t (splice (O.vals l) (0 + i * el.size) (O.vals m)) 1)) = _
 have e : splice (O.vals l) (0 + i * el.size) (O.vals m) = O.vals (l.take i ++ m ++ l.drop (i + m.length)) := by
  unfold splice
  rw [hel, Nat.zero_add, Nat.mul_one, vals_len, vals_take, vals_drop, vals_app, vals_app]
 rw [e, hlen]; rfl
theorem app_tree {el : El} {lo : Nat} {st : Bool} {u : Value} (hel : el.size = 1) (hu : sliceCells h 1 u = some (O.vals m, m.length)) (hm : m ≠ []) (hb : (l.length + m.length) * el.bytes ≤ 2 ^ 47) :
  appendT (some el) h lo st (lst true (O.vals l)) u = some (sl h.length (l ++ m), h ++ [O.row el.e (l ++ m)]) := by
 have hm0 : m.length ≠ 0 := fun e => hm (List.eq_nil_of_length_eq_zero e)
 rw [append_lst, hel, hu]
 simp only [Option.bind_some]
 rw [if_neg hm0, if_pos ⟨vals_all l, by rw [vals_len]; exact hb⟩, vals_len, vals_flat, ← vals_app, vals_len]
 unfold sl
 rw [List.length_append]
 rfl
theorem app_none {el : El} {lo : Nat} {st : Bool} {u : Value} (hel : el.size = 1) (hu : sliceCells h 1 u = some (O.vals ([] : List α), 0)) : appendT (some el) h lo st (lst true []) u = some (lst true [], h) := by
 rw [append_lst, hel, hu]; rfl
theorem lit {el : El} (a : α) (hel : el.size = 1) (hz : el.z.cells.size = 1) (hk : el.k = ⟨some false, some 1⟩) : buildSliceT (some el) false h 1 #[(0, O.e a)] = some (lst true (O.vals [a]), h) := by
 rw [build_one' (O.one a) hel hz, if_neg (by simp), if_pos (O.set a 7), hk]; rfl
end Enc
def intE : Enc Int := ⟨.int .i64, fun _ => rfl, fun _ _ => rfl, fun _ _ _ => rfl, fun _ _ => rfl⟩
def strE : Enc ByteArray := ⟨.string, fun _ => rfl, fun _ _ => rfl, fun _ _ _ => rfl, fun _ _ => rfl⟩
end Go.Proofs.Ytcnafncmfiogcaa.Bm
namespace Go.Proofs.Ytcnafncmfiogcaa.Bm
open Go Go.RowKit
namespace Rec
variable {α : Type} {R : Rec α}
def o (R : Rec α) (k : Option Bool) (l : List α) : Value := match k with | none => .slice none 0 0 | some b => lst b (R.vals l)
def Ok (k : Option Bool) (l : List α) : Prop := k = none → l = []
theorem ok_some {b : Bool} {l : List α} : Ok (some b) l := fun h => by cases h
theorem ok_nil {k : Option Bool} : Ok k ([] : List α) := fun _ => rfl
section
variable {k : Option Bool} {l : List α} {h : Heap}
theorem o_len (hk : Ok k l) : lenT .sl h (R.o k l) = some (.int .i64 l.length) := by
 cases k with
 | none => have := hk rfl; subst this; rfl
 | some b => exact tree_len
theorem o_one : one (R.o k l) = true := by cases k <;> rfl
theorem o_set {n : Nat} : settled (n + 1) (R.o k l) = true := by cases k <;> rfl
theorem o_bel {d n : Nat} : below (d + 1) n (R.o k l) = true := by cases k <;> rfl
theorem o_fits {sz : Option Nat} : fitsTT ⟨some false, sz⟩ (R.o k l) = true := by cases k <;> rfl
theorem o_reify {P : Program} {n : Nat} : reify P (n + 1) h (R.o k l) = some (R.o k l) := by cases k <;> rfl
theorem o_cells1 : cellsL (R.o k l) = [R.o k l] := by cases k <;> rfl
theorem o_cells {s : Nat} (hs : s = R.m + 1) (hk : Ok k l) : sliceCells h s (R.o k l) = some (R.flat l, l.length) := by
 cases k with
 | none => have := hk rfl; subst this; rfl
 | some b => exact cells_tree hs l
theorem o_index {s i : Nat} {t : TypeId} {kk : IntKind} (hs : s = R.m + 1) (hk : Ok k l) (h1 : i < l.length) : indexAddrT (.sl t ⟨some true, some s⟩) (R.o k l) (.int kk (i : Int)) = some (cptr (R.val l[i])) := by
 cases k with
 | none => have := hk rfl; subst this; simp at h1
 | some b => exact index_tree hs h1
end
theorem app_fill {el : El} {h : Heap} {lo b n r : Nat} {t : TypeId} {acc m : List α} {z : α} {u : Value} (hel : el.size = R.m + 1) (hob : h[b]? = some (R.row t (acc ++ List.replicate r z))) (hn : n = acc.length + r)
  (hu : sliceCells h el.size u = some (R.flat m, m.length)) (hlo : lo ≤ b) (hm : m.length ≤ r) :
  appendT (some el) h lo false (.slice (some ⟨b, 0, some (n * (R.m + 1))⟩) acc.length n) u = some (.slice (some ⟨b, 0, some (n * (R.m + 1))⟩) (acc ++ m).length n, h.set b (R.row t ((acc ++ m) ++ List.replicate (r - m.length) z))) := by
 have hl : (acc ++ List.replicate r z).length = n := by rw [List.length_append, List.length_replicate, hn]
 have key := app_room (i := acc.length) hel hob hu hlo (by rw [hl, hn]; omega)
 rw [hl] at key
 rw [key]
 have e1 : (acc ++ List.replicate r z).take acc.length = acc := by simp
 have e2 : (acc ++ List.replicate r z).drop (acc.length + m.length) = List.replicate (r - m.length) z := by
  rw [List.drop_append, List.drop_of_length_le (by omega)]; simp
 rw [e1, e2, List.length_append]
theorem slice_none {ix : TypeId} {g : TI} {s : Nat} {h : Heap} {k : IntKind} (hs : g.sz = some s) : sliceT (.sl ix g) h (.slice none 0 0) none (some (.int k 0)) none = some (.slice none 0 0) := by
 unfold sliceT
 simp [hs, bound]
theorem slice_row0 {e t : TypeId} {g : Option Bool} {h : Heap} {b n s : Nat} {l : List α} {k : IntKind} (hs : s = R.m + 1) (hob : h[b]? = some (R.row t l)) (hn : n = l.length) :
  sliceT (.sl e ⟨g, some s⟩) h (.slice (some ⟨b, 0, some (n * (R.m + 1))⟩) n n) none (some (.int k 0)) none = some (.slice (some ⟨b, 0, some (n * (R.m + 1))⟩) 0 n) := by
 subst hs; subst hn
 have hob' : h[b]? = some (.cells t (R.flat l) (R.m + 1)) := hob
 have hf : fitsRow h ⟨b, 0, some (l.length * (R.m + 1))⟩ (R.m + 1) = true := by
  unfold fitsRow
  show (match h[b]? with | some (.cells _ c g) => _ | _ => false) = true
  rw [hob']
  simp [stampOk, flat_len]
 unfold sliceT
 simp [hf, bound, rowSl, shift]
end Rec
end Go.Proofs.Ytcnafncmfiogcaa.Bm
namespace Go.Proofs.Ytcnafncmfiogcaa.Cp
structure Br where
 kids : Int
 bound : Int
deriving DecidableEq
structure Pr where
 may : Option Int → Int → Bool
 lim : Int → Int
 most : Int
structure Nd where
 c : List Int
 v : Int
 rem : List Int
 left : Int → Int
def us : List Int := [0, 1, 2, 3, 4, 5]
def take (s : Nd) (u a : Int) (r : List Int) : Nd := ⟨s.c ++ [u], s.v + a, r, fun w => if w = u then s.left u - a else s.left w⟩
def next (P : Pr) (s : Nd) (u : Int) : Option Nd :=
 match s.rem with
 | [] => none
 | a :: r => if P.may s.c.getLast? u = true ∧ 0 ≤ s.left u - a ∧ s.v + a ≤ P.most then some (take s u a r) else none
def root (P : Pr) (A : List Int) : Nd := ⟨[], 0, A, P.lim⟩
def run (P : Pr) : Nd → List Int → Option Nd
 | s, [] => some s
 | s, u :: c => match next P s u with | none => none | some t => run P t c
def fits (P : Pr) (A c : List Int) : Bool := (run P (root P A) c).isSome
def reach (P : Pr) (s : Nd) : Int := min (s.v + s.rem.sum) P.most
def conts (P : Pr) (s : Nd) : List Nd := us.filterMap (next P s)
structure Acc where
 val : Int
 best : List Int
 tree : List Br
def bump (b : Br) : Br := ⟨b.kids + 1, b.bound⟩
def enter (P : Pr) (s : Nd) (a : Acc) : Acc := ⟨if a.val < s.v then s.v else a.val, if a.val < s.v then s.c else a.best, a.tree ++ [⟨0, reach P s⟩]⟩
def loopF (f : Nd → Acc → Acc) (P : Pr) (s : Nd) (i : Nat) : List Int → Acc → Acc
 | [], a => a
 | u :: l, a => if a.tree.length ≤ 4000 then
   (match next P s u with
   | none => loopF f P s i l a
   | some t => loopF f P s i l (f t ⟨a.val, a.best, a.tree.modify i bump⟩))
  else a
def vis (P : Pr) : Nat → Nd → Acc → Acc
 | 0, s, a => enter P s a
 | n + 1, s, a => if (enter P s a).val < reach P s then loopF (vis P n) P s a.tree.length us (enter P s a) else enter P s a
def loopR (f : Nd → Acc → Acc) (P : Pr) (s : Nd) (i : Nat) : List Int → Acc → Acc
 | [], a => a
 | u :: l, a => match next P s u with
   | none => loopR f P s i l a
   | some t => loopR f P s i l (f t ⟨a.val, a.best, a.tree.modify i bump⟩)
def visR (P : Pr) : Nat → Nd → Acc → Acc
 | 0, s, a => if 4000 < a.tree.length then a else enter P s a
 | n + 1, s, a => if 4000 < a.tree.length then a else
  if (enter P s a).val < reach P s then loopR (visR P n) P s a.tree.length us (enter P s a) else enter P s a
abbrev VB := Int × List Int
def upd (s : Nd) (a : VB) : VB := if a.1 < s.v then (s.v, s.c) else a
def kidsU (f : Nd → VB → VB × List Br) : List Nd → VB → VB × List Br
 | [], a => (a, [])
 | t :: ts, a => ((kidsU f ts (f t a).1).1, (f t a).2 ++ (kidsU f ts (f t a).1).2)
def sr (P : Pr) : Nat → Nd → VB → VB × List Br
 | 0, s, a => (upd s a, [⟨0, reach P s⟩])
 | n + 1, s, a => if (upd s a).1 < reach P s then ((kidsU (sr P n) (conts P s) (upd s a)).1, ⟨(conts P s).length, reach P s⟩ :: (kidsU (sr P n) (conts P s) (upd s a)).2)
  else (upd s a, [⟨0, reach P s⟩])
def best (P : Pr) (A : List Int) : Option (Int × List Int × List Br) :=
 let r := sr P A.length (root P A) (-1, [])
 if r.2.length ≤ 4000 then some (r.1.1, r.1.2, r.2) else none
def ended (a : Acc) : Option (Int × List Int × List Br) := if 4000 < a.tree.length then none else some (a.val, a.best, a.tree)
end Go.Proofs.Ytcnafncmfiogcaa.Cp
namespace Go.Proofs.Ytcnafncmfiogcaa.Cp
structure Good (P : Pr) (s : Nd) : Prop where
 pos : ∀ a ∈ s.rem, 0 ≤ a
 most : s.v ≤ P.most
theorem next_some {P : Pr} {s t : Nd} {u : Int} (h : next P s u = some t) : ∃ a r, s.rem = a :: r ∧ t = take s u a r ∧ P.may s.c.getLast? u = true ∧ 0 ≤ s.left u - a ∧ s.v + a ≤ P.most := by
 unfold next at h
 cases hr : s.rem with
 | nil => rw [hr] at h; exact absurd h (by simp)
 | cons a r =>
  rw [hr] at h
  simp only at h
  by_cases q : P.may s.c.getLast? u = true ∧ 0 ≤ s.left u - a ∧ s.v + a ≤ P.most
  ·rw [if_pos q] at h
   exact ⟨a, r, rfl, (Option.some.inj h).symm, q⟩
  ·rw [if_neg q] at h; exact absurd h (by simp)
theorem next_rem {P : Pr} {s t : Nd} {u : Int} (h : next P s u = some t) : t.rem.length + 1 = s.rem.length := by
 obtain ⟨a, r, hr, rfl, _⟩ := next_some h
 rw [hr]; rfl
theorem sum_nonneg : ∀ {l : List Int}, (∀ a ∈ l, 0 ≤ a) → 0 ≤ l.sum
 | [], _ => Int.le_refl 0
 | a :: l, h => by
  have h1 := h a List.mem_cons_self
  have h2 := sum_nonneg fun x hx => h x (List.mem_cons_of_mem a hx)
  rw [List.sum_cons]; omega
theorem run_cons (P : Pr) (s : Nd) (u : Int) (c : List Int) : run P s (u :: c) = match next P s u with | none => none | some t => run P t c := rfl
theorem run_step {P : Pr} {s t : Nd} {u : Int} {c : List Int} (h : run P s (u :: c) = some t) : ∃ s1, next P s u = some s1 ∧ run P s1 c = some t := by
 rw [run_cons] at h
 cases hn : next P s u with
 | none => rw [hn] at h; exact absurd h (by simp)
 | some s1 => rw [hn] at h; exact ⟨s1, rfl, h⟩
theorem run_c {P : Pr} : ∀ {c : List Int} {s t : Nd}, run P s c = some t → t.c = s.c ++ c
 | [], _, _, h => by rw [Option.some.inj h, List.append_nil]
 | u :: c, s, t, h => by
  obtain ⟨s1, h1, h2⟩ := run_step h
  rw [run_c h2]
  obtain ⟨a, r, _, rfl, _⟩ := next_some h1
  show s.c ++ [u] ++ c = _
  rw [List.append_assoc]; rfl
theorem run_append (P : Pr) : ∀ (c d : List Int) (s : Nd), run P s (c ++ d) = match run P s c with | none => none | some t => run P t d
 | [], _, _ => rfl
 | u :: c, d, s => by
  rw [List.cons_append, run_cons, run_cons]
  cases next P s u with
  | none => rfl
  | some t => exact run_append P c d t
theorem run_rem {P : Pr} : ∀ {c : List Int} {s t : Nd}, run P s c = some t → s.rem = s.rem.take c.length ++ t.rem ∧ t.v = s.v + (s.rem.take c.length).sum ∧ t.rem.length + c.length = s.rem.length
 | [], _, _, h => by
  rw [Option.some.inj h]
  refine ⟨by simp, by simp, by simp⟩
 | u :: c, s, t, h => by
  obtain ⟨s1, h1, h2⟩ := run_step h
  obtain ⟨i1, i2, i3⟩ := run_rem h2
  obtain ⟨a, r, hr, rfl, _⟩ := next_some h1
  have e1 : (take s u a r).rem = r := rfl
  have e2 : (take s u a r).v = s.v + a := rfl
  rw [e1] at i1 i2 i3
  rw [e2] at i2
  rw [hr, List.length_cons, List.take_succ_cons, List.sum_cons, List.cons_append, ← i1]
  refine ⟨rfl, by omega, by simp only [List.length_cons]; omega⟩
def before : List Int → List Int → Bool
 | _, [] => false
 | [], _ :: _ => true
 | a :: l, b :: m => if a = b then before l m else decide (a < b)
def NoEarlier (P : Pr) (s : Nd) (c : List Int) (v : Int) : Prop := ∀ c' t', run P s c' = some t' → t'.v = v → before c' c = false
structure Told (P : Pr) (s : Nd) (a r : VB) : Prop where
 ge : a.1 ≤ r.1
 all : ∀ c t, run P s c = some t → t.v ≤ r.1
 what : r = a ∨ (a.1 < r.1 ∧ ∃ c t, run P s c = some t ∧ r = (t.v, t.c) ∧ NoEarlier P s c t.v)
structure ToldL (P : Pr) (s : Nd) (l : List Int) (a r : VB) : Prop where
 ge : a.1 ≤ r.1
 all : ∀ u ∈ l, ∀ c t, run P s (u :: c) = some t → t.v ≤ r.1
 what : r = a ∨ (a.1 < r.1 ∧ ∃ u c t, u ∈ l ∧ run P s (u :: c) = some t ∧ r = (t.v, t.c) ∧ ∀ u' ∈ l, ∀ c' t', run P s (u' :: c') = some t' → t'.v = t.v → before (u' :: c') (u :: c) = false)
end Go.Proofs.Ytcnafncmfiogcaa.Cp
namespace Go.Proofs.Ytcnafncmfiogcaa.Cp
abbrev Rd := Int × List Br × List Br
def forest (f : Nd → List Br → Option Rd) : List Nd → Int → List Br → Option Rd
 | [], m, r => some (m, [], r)
 | t :: ts, m, r => match f t r with
  | none => none
  | some x => match forest f ts (max m x.1) x.2.2 with
   | none => none
   | some y => some (y.1, x.2.1 ++ y.2.1, y.2.2)
def prv (P : Pr) : Nat → Nd → List Br → Option Rd
 | _, _, [] => none
 | 0, s, b :: r => if b.kids = 0 then some (s.v, [⟨b.kids, s.v⟩], r) else none
 | n + 1, s, b :: r =>
  if b.kids = (conts P s).length then
   (match forest (prv P n) (conts P s) s.v r with
   | none => none
   | some x => some (x.1, ⟨b.kids, x.1⟩ :: x.2.1, x.2.2))
  else if b.kids = 0 then some (reach P s, [⟨b.kids, reach P s⟩], r) else none
def kidsL (l : List Br) : List Int := l.map Br.kids
def Reads (f : List Br → Option Rd) : Prop := ∀ l x, f l = some x → ∃ l0, l = l0 ++ x.2.2 ∧ kidsL x.2.1 = kidsL l0 ∧ ∀ l1 r1, kidsL l1 = kidsL l0 → f (l1 ++ r1) = some (x.1, x.2.1, r1)
theorem forest_nil (f : Nd → List Br → Option Rd) (m : Int) (r : List Br) : forest f [] m r = some (m, [], r) := rfl
theorem forest_cons {f : Nd → List Br → Option Rd} {t : Nd} {ts : List Nd} {m : Int} {r : List Br} {y : Rd} (h : forest f (t :: ts) m r = some y) :
  ∃ x z, f t r = some x ∧ forest f ts (max m x.1) x.2.2 = some z ∧ y = (z.1, x.2.1 ++ z.2.1, z.2.2) := by
 unfold forest at h
 cases hx : f t r with
 | none => rw [hx] at h; exact absurd h (by simp)
 | some x =>
  rw [hx] at h
  cases hz : forest f ts (max m x.1) x.2.2 with
  | none => simp only [hz] at h; exact absurd h (by simp)
  | some z =>
   simp only [hz] at h
   exact ⟨x, z, rfl, hz, (Option.some.inj h).symm⟩
theorem forest_mk {f : Nd → List Br → Option Rd} {t : Nd} {ts : List Nd} {m : Int} {r : List Br} {x z : Rd} (hx : f t r = some x) (hz : forest f ts (max m x.1) x.2.2 = some z) :
  forest f (t :: ts) m r = some (z.1, x.2.1 ++ z.2.1, z.2.2) := by
 show (match f t r with | none => none | some x => match forest f ts (max m x.1) x.2.2 with | none => none | some y => some (y.1, x.2.1 ++ y.2.1, y.2.2)) = _
 rw [hx]
 show (match forest f ts (max m x.1) x.2.2 with | none => none | some y => some (y.1, x.2.1 ++ y.2.1, y.2.2)) = _
 rw [hz]
theorem forest_reads {f : Nd → List Br → Option Rd} (h : ∀ t, Reads (f t)) : ∀ (ts : List Nd) (m : Int), Reads (forest f ts m)
 | [], m => fun l x q => by
  have e := Option.some.inj q
  subst e
  refine ⟨[], rfl, rfl, fun l1 r1 q => ?_⟩
  have : l1 = [] := List.map_eq_nil_iff.1 q
  rw [this]; rfl
 | t :: ts, m => fun l y q => by
  obtain ⟨x, z, hx, hz, rfl⟩ := forest_cons q
  obtain ⟨l0, e0, k0, p0⟩ := h t l x hx
  obtain ⟨l2, e2, k2, p2⟩ := forest_reads h ts (max m x.1) x.2.2 z hz
  refine ⟨l0 ++ l2, ?_, ?_, fun l1 r1 q => ?_⟩
  ·show l = l0 ++ l2 ++ z.2.2
   rw [List.append_assoc, ← e2]; exact e0
  ·show kidsL (x.2.1 ++ z.2.1) = _
   unfold kidsL at *
   rw [List.map_append, List.map_append, k0, k2]
  ·have q : l1.map Br.kids = (l0 ++ l2).map Br.kids := q
   rw [List.map_append, List.map_eq_append_iff] at q
   obtain ⟨a, b, rfl, qa, qb⟩ := q
   rw [List.append_assoc]
   exact forest_mk (p0 a (b ++ r1) qa) (p2 b r1 qb)
theorem prv_zero (P : Pr) (s : Nd) (b : Br) (r : List Br) : prv P 0 s (b :: r) = if b.kids = 0 then some (s.v, [⟨b.kids, s.v⟩], r) else none := rfl
theorem prv_succ (P : Pr) (n : Nat) (s : Nd) (b : Br) (r : List Br) : prv P (n + 1) s (b :: r) = if b.kids = (conts P s).length then
   (match forest (prv P n) (conts P s) s.v r with
   | none => none
   | some x => some (x.1, ⟨b.kids, x.1⟩ :: x.2.1, x.2.2))
  else if b.kids = 0 then some (reach P s, [⟨b.kids, reach P s⟩], r) else none := rfl
theorem prv_nil (P : Pr) (n : Nat) (s : Nd) : prv P n s [] = none := by cases n <;> rfl
theorem prv_reads (P : Pr) : ∀ (n : Nat) (s : Nd), Reads (prv P n s)
 | n, s => fun l x q => by
  cases l with
  | nil => rw [prv_nil] at q; exact absurd q (by simp)
  | cons b r =>
   have one : ∀ (m : Int), (∀ b' r', b'.kids = b.kids → prv P n s (b' :: r') = some (m, [⟨b.kids, m⟩], r')) → x = (m, [⟨b.kids, m⟩], r) →
     ∃ l0, b :: r = l0 ++ x.2.2 ∧ kidsL x.2.1 = kidsL l0 ∧ ∀ l1 r1, kidsL l1 = kidsL l0 → prv P n s (l1 ++ r1) = some (x.1, x.2.1, r1) := by
    intro m hm hx
    subst hx
    refine ⟨[b], rfl, rfl, fun l1 r1 q => ?_⟩
    match l1, q with
    | [], q => exact absurd q (by simp [kidsL])
    | [b'], q => exact hm b' r1 (by simpa [kidsL] using q)
    | _ :: _ :: _, q => exact absurd (congrArg List.length q) (by simp [kidsL])
   cases n with
   | zero =>
    rw [prv_zero] at q
    by_cases k : b.kids = 0
    ·rw [if_pos k] at q
     exact one s.v (fun b' r' e => by rw [prv_zero, if_pos (e.trans k), e]) (Option.some.inj q).symm
    ·rw [if_neg k] at q; exact absurd q (by simp)
   | succ n =>
    rw [prv_succ] at q
    by_cases k : b.kids = (conts P s).length
    ·rw [if_pos k] at q
     cases hz : forest (prv P n) (conts P s) s.v r with
     | none => rw [hz] at q; exact absurd q (by simp)
     | some z =>
      rw [hz] at q
      have q := Option.some.inj q
      subst q
      obtain ⟨l0, e0, k0, p0⟩ := forest_reads (fun t => prv_reads P n t) (conts P s) s.v r z hz
      refine ⟨b :: l0, by rw [e0]; rfl, ?_, fun l1 r1 q => ?_⟩
      ·show b.kids :: kidsL z.2.1 = b.kids :: kidsL l0
       rw [k0]
      ·cases l1 with
       | nil => exact absurd q (by simp [kidsL])
       | cons b' l1 =>
        have q1 : b'.kids = b.kids := by have := congrArg List.head? q; simpa [kidsL] using this
        have q2 : kidsL l1 = kidsL l0 := by have := congrArg List.tail q; simpa [kidsL] using this
        rw [List.cons_append, prv_succ, q1, if_pos k, p0 l1 r1 q2]
    ·rw [if_neg k] at q
     by_cases k0 : b.kids = 0
     ·rw [if_pos k0] at q
      exact one (reach P s) (fun b' r' e => by rw [prv_succ, e, if_neg k, if_pos k0]) (Option.some.inj q).symm
     ·rw [if_neg k0] at q; exact absurd q (by simp)
structure Sound (P : Pr) (s : Nd) (x : Rd) : Prop where
 all : ∀ c t, run P s c = some t → t.v ≤ x.1
 le : x.1 ≤ reach P s
 head : ∃ k o, x.2.1 = ⟨k, x.1⟩ :: o
theorem conts_mem {P : Pr} {s t : Nd} (h : t ∈ conts P s) : ∃ u, next P s u = some t := by
 obtain ⟨u, _, hu⟩ := List.mem_filterMap.1 h
 exact ⟨u, hu⟩
def le2 : List Br → List Br → Prop
 | [], [] => True
 | x :: l, y :: o => x.kids = y.kids ∧ y.bound ≤ x.bound ∧ le2 l o
 | _, _ => False
def tight (P : Pr) (A : List Int) (l : List Br) : Option (List Br) :=
 if 4000 < l.length then none else
  match prv P A.length (root P A) l with
  | none => none
  | some x => if x.2.2 = [] then some x.2.1 else none
theorem tight_iff {P : Pr} {A : List Int} {l o : List Br} : tight P A l = some o ↔ l.length ≤ 4000 ∧ ∃ m, prv P A.length (root P A) l = some (m, o, []) := by
 unfold tight
 by_cases h : 4000 < l.length
 ·rw [if_pos h]
  exact ⟨fun q => absurd q (by simp), fun q => absurd q.1 (by omega)⟩
 ·rw [if_neg h]
  cases hx : prv P A.length (root P A) l with
  | none => exact ⟨fun q => absurd q (by simp), fun ⟨_, _, q⟩ => absurd q (by simp)⟩
  | some x =>
   simp only
   by_cases hr : x.2.2 = []
   ·rw [if_pos hr]
    refine ⟨fun q => ⟨by omega, x.1, ?_⟩, fun ⟨_, m, q⟩ => ?_⟩
    ·rw [← Option.some.inj q, ← hr]
    ·rw [Option.some.inj q]
   ·rw [if_neg hr]
    refine ⟨fun q => absurd q (by simp), fun ⟨_, m, q⟩ => ?_⟩
    rw [Option.some.inj q] at hr
    exact absurd rfl hr
def lows : List Br → List Br → Bool
 | x :: l, y :: o => decide (x.bound < y.bound) || lows l o
 | _, _ => false
def chk (P : Pr) (A c : List Int) (v : Int) (l : List Br) : Nat :=
 match run P (root P A) c with
 | none => 1
 | some t => if t.v = v then
   (match tight P A l with
   | none => 2
   | some o => if v < (o.headD ⟨0, 0⟩).bound ∨ lows l o = true then 2 else 0)
  else 1
theorem tight_read {P : Pr} {A : List Int} {l o : List Br} (h : tight P A l = some o) : kidsL o = kidsL l := by
 obtain ⟨h1, m, h2⟩ := tight_iff.1 h
 obtain ⟨l0, e0, k0, _⟩ := prv_reads P A.length (root P A) l _ h2
 have e0 : l = l0 ++ [] := e0
 rw [List.append_nil] at e0
 rw [e0]; exact k0
end Go.Proofs.Ytcnafncmfiogcaa.Cp
namespace Go.Proofs.Ytcnafncmfiogcaa.Cp
structure Q where
 uses : Int
 left : List (ByteArray × Int)
 most : Int
 never : List (Int × Int)
def nameB (u : Int) : ByteArray :=
 if u = 0 then ⟨⟨[104, 111, 109, 101]⟩⟩ else if u = 1 then ⟨⟨[115, 104, 111, 112]⟩⟩ else if u = 2 then ⟨⟨[119, 111, 114, 107]⟩⟩ else if u = 3 then ⟨⟨[112, 97, 114, 107]⟩⟩
 else if u = 4 then ⟨⟨[112, 108, 97, 110, 116]⟩⟩ else ⟨⟨[104, 97, 108, 108]⟩⟩
def bitB (w u : Int) : Bool := decide (w / 2 ^ u.toNat % 2 = 1)
def hasP (l : List (Int × Int)) (x : Int × Int) : Bool := l.any fun y => decide (x = y)
def mayQ (q : Q) (last : Option Int) (u : Int) : Bool :=
 decide (0 ≤ u) && (decide (u < 6) && (bitB q.uses u && (match last with | none => true | some w => !hasP q.never (w, u))))
def limS (u : Int) (l : Int) (e : ByteArray × Int) : Int := if e.1 = nameB u then max (-1) (min l e.2) else l
def limQ (q : Q) (u : Int) : Int := q.left.foldl (limS u) q.most
def prQ (q : Q) : Pr := ⟨mayQ q, limQ q, q.most⟩
def badP (p : Int × Int) : Bool := decide (min p.1 p.2 < 0) || decide (6 ≤ max p.1 p.2)
def validQ (q : Q) : Bool := decide (0 ≤ q.uses) && (decide (q.uses ≤ 63) && (decide (0 ≤ q.most) && (decide (q.left.length ≤ 30) && (decide (q.never.length ≤ 36) && !q.never.any badP))))
theorem validQ_iff {q : Q} : validQ q = true ↔ 0 ≤ q.uses ∧ q.uses ≤ 63 ∧ 0 ≤ q.most ∧ q.left.length ≤ 30 ∧ q.never.length ≤ 36 ∧ q.never.any badP = false := by
 unfold validQ
 simp only [Bool.and_eq_true, decide_eq_true_eq, Bool.not_eq_true']
theorem may_ge {q : Q} {l : Option Int} {u : Int} (h : mayQ q l u = true) : 0 ≤ u ∧ u < 6 := by
 unfold mayQ at h
 simp only [Bool.and_eq_true, decide_eq_true_eq] at h
 exact ⟨h.1, h.2.1⟩
theorem fold_le (u : Int) : ∀ (L : List (ByteArray × Int)) (l x : Int), 0 ≤ x → (x ≤ L.foldl (limS u) l ↔ x ≤ l ∧ ∀ e ∈ L, e.1 = nameB u → x ≤ e.2)
 | [], l, x, _ => by simp
 | e :: L, l, x, hx => by
  rw [List.foldl_cons, fold_le u L _ x hx]
  unfold limS
  by_cases h : e.1 = nameB u
  ·rw [if_pos h]
   constructor
   ·rintro ⟨h1, h2⟩
    refine ⟨by omega, fun e' he' hn => ?_⟩
    rcases List.mem_cons.1 he' with rfl | he'
    ·omega
    ·exact h2 e' he' hn
   ·rintro ⟨h1, h2⟩
    have := h2 e List.mem_cons_self h
    exact ⟨by omega, fun e' he' hn => h2 e' (List.mem_cons_of_mem e he') hn⟩
  ·rw [if_neg h]
   constructor
   ·rintro ⟨h1, h2⟩
    refine ⟨h1, fun e' he' hn => ?_⟩
    rcases List.mem_cons.1 he' with rfl | he'
    ·exact absurd hn h
    ·exact h2 e' he' hn
   ·rintro ⟨h1, h2⟩
    exact ⟨h1, fun e' he' hn => h2 e' (List.mem_cons_of_mem e he') hn⟩
def leftOk (q : Q) (u x : Int) : Bool := q.left.all fun e => !decide (e.1 = nameB u) || decide (x ≤ e.2)
theorem leftOk_iff {q : Q} {u x : Int} : leftOk q u x = true ↔ ∀ e ∈ q.left, e.1 = nameB u → x ≤ e.2 := by
 unfold leftOk
 rw [List.all_eq_true]
 refine forall_congr' fun e => forall_congr' fun _ => ?_
 by_cases h : e.1 = nameB u <;> simp [h]
def goR (q : Q) : Option Int → (Int → Int) → List Int → List Int → Bool
 | _, _, _, [] => true
 | _, _, [], _ :: _ => false
 | prev, sums, a :: A, u :: c => mayQ q prev u && (leftOk q u (sums u + a) && goR q (some u) (fun w => if w = u then sums u + a else sums w) A c)
theorem go_nil (q : Q) (p : Option Int) (f : Int → Int) (A : List Int) : goR q p f A [] = true := by cases A <;> rfl
def inA (A : List Int) : Bool := A.all fun a => decide (1 ≤ a) && decide (a ≤ 1099511627776)
theorem inA_iff {A : List Int} : inA A = true ↔ ∀ a ∈ A, 1 ≤ a ∧ a ≤ 1099511627776 := by
 unfold inA
 rw [List.all_eq_true]
 refine forall_congr' fun e => forall_congr' fun _ => ?_
 simp
def fitR (q : Q) (A c : List Int) : Bool :=
 validQ q && (decide (A.length ≤ 12) && (decide (c.length ≤ A.length) && (inA A && (goR q none (fun _ => 0) A c && decide ((A.take c.length).sum ≤ q.most)))))
def fitS (q : Q) (A c : List Int) : Bool :=
 validQ q && (decide (A.length ≤ 12) && (decide (c.length ≤ A.length) && (inA A && fits (prQ q) A c)))
theorem sum_take_nonneg {A : List Int} (h : ∀ a ∈ A, 1 ≤ a ∧ a ≤ 1099511627776) (n : Nat) : 0 ≤ (A.take n).sum :=
 sum_nonneg fun a ha => by have := h a (List.mem_of_mem_take ha); omega
theorem last_snoc (c : List Int) (u : Int) : (c ++ [u]).getLast? = some u := by simp
theorem go_run {q : Q} (hm : 0 ≤ q.most) : ∀ (c : List Int) (s : Nd) (sums : Int → Int), (∀ a ∈ s.rem, 1 ≤ a ∧ a ≤ 1099511627776) → (∀ u, 0 ≤ sums u ∧ sums u ≤ s.v) → (∀ u, s.left u = limQ q u - sums u) → s.v ≤ q.most → c.length ≤ s.rem.length →
  ((goR q s.c.getLast? sums s.rem c = true ∧ s.v + (s.rem.take c.length).sum ≤ q.most) ↔ (run (prQ q) s c).isSome = true)
 | [], s, sums, _, _, _, hv, _ => by
  rw [go_nil]
  show (true = true ∧ s.v + (s.rem.take 0).sum ≤ q.most) ↔ (some s).isSome = true
  simp [hv]
 | u :: c, s, sums, hA, hs, hl, hv, hc => by
  cases hr : s.rem with
  | nil => rw [hr] at hc; exact absurd hc (Nat.not_succ_le_zero _)
  | cons a r =>
   rw [hr] at hA hc
   have ha := hA a List.mem_cons_self
   have hsu := hs u
   show ((mayQ q s.c.getLast? u && (leftOk q u (sums u + a) && goR q (some u) (fun w => if w = u then sums u + a else sums w) r c)) = true ∧ s.v + ((a :: r).take (c.length + 1)).sum ≤ q.most) ↔ _
   rw [run_cons, List.take_succ_cons, List.sum_cons]
   simp only [Bool.and_eq_true]
   have hn : next (prQ q) s u = if mayQ q s.c.getLast? u = true ∧ 0 ≤ s.left u - a ∧ s.v + a ≤ q.most then some (take s u a r) else none := by
    unfold next; rw [hr]; rfl
   have hk := fold_le u q.left q.most (sums u + a) (by omega)
   have hlu : s.left u = q.left.foldl (limS u) q.most - sums u := hl u
   have hlo := leftOk_iff (q := q) (u := u) (x := sums u + a)
   have h0 : 0 ≤ (r.take c.length).sum := sum_take_nonneg (fun a ha => hA a (List.mem_cons_of_mem _ ha)) c.length
   have ih := go_run hm c (take s u a r) (fun w => if w = u then sums u + a else sums w) (fun a ha => hA a (List.mem_cons_of_mem _ ha))
   have e1 : (take s u a r).c.getLast? = some u := last_snoc s.c u
   have e2 : (take s u a r).rem = r := rfl
   have e3 : (take s u a r).v = s.v + a := rfl
   rw [e1, e2, e3] at ih
   rw [hn]
   by_cases hc3 : mayQ q s.c.getLast? u = true ∧ 0 ≤ s.left u - a ∧ s.v + a ≤ q.most
   ·rw [if_pos hc3]
    have ih := ih (fun w => by
      show 0 ≤ (if w = u then sums u + a else sums w) ∧ (if w = u then sums u + a else sums w) ≤ s.v + a
      have := hs w
      split <;> omega) (fun w => by
      show (if w = u then s.left u - a else s.left w) = _
      by_cases hw : w = u
      ·subst hw; rw [if_pos rfl, if_pos rfl, hl]; omega
      ·rw [if_neg hw, if_neg hw, hl]) hc3.2.2 (by simpa using hc)
    show _ ↔ (run (prQ q) (take s u a r) c).isSome = true
    rw [← ih]
    constructor
    ·rintro ⟨⟨_, _, h3⟩, h4⟩; exact ⟨h3, by omega⟩
    ·rintro ⟨h3, h4⟩
     exact ⟨⟨hc3.1, hlo.2 (hk.1 (by omega)).2, h3⟩, by omega⟩
   ·rw [if_neg hc3]
    constructor
    ·rintro ⟨⟨h1, h2, _⟩, h4⟩
     exact absurd ⟨h1, by have := hk.2 ⟨by omega, hlo.1 h2⟩; omega, by omega⟩ hc3
    ·intro h; exact absurd h (by simp)
theorem fit_eq (q : Q) (A c : List Int) : fitR q A c = fitS q A c := by
 unfold fitR fitS
 cases hv : validQ q
 ·rfl
 by_cases h1 : A.length ≤ 12
 case neg => rw [decide_eq_false h1]; rfl
 by_cases h2 : c.length ≤ A.length
 case neg => rw [decide_eq_false h2]; simp
 cases hA : inA A
 ·simp
 have hm := (validQ_iff.1 hv).2.2.1
 have key := go_run hm c (root (prQ q) A) (fun _ => 0) (inA_iff.1 hA) (fun u => ⟨Int.le_refl _, Int.le_refl _⟩) (fun u => by show limQ q u = limQ q u - 0; omega) hm h2
 have e1 : (root (prQ q) A).c.getLast? = none := rfl
 have e2 : (root (prQ q) A).rem = A := rfl
 have e3 : (root (prQ q) A).v = 0 := rfl
 rw [e1, e2, e3, Int.zero_add] at key
 unfold fits
 rw [Bool.true_and, decide_eq_true h1, Bool.true_and, decide_eq_true h2, Bool.true_and, Bool.true_and, Bool.true_and, Bool.true_and, Bool.true_and, Bool.true_and]
 rw [Bool.eq_iff_iff, ← key, Bool.and_eq_true, decide_eq_true_eq]
end Go.Proofs.Ytcnafncmfiogcaa.Cp
namespace Go.Proofs.Ytcnafncmfiogcaa.Bm
open Go Go.RowKit
def entR : Rec (ByteArray × Int) where
 enc p := [.string p.1, .int .i64 p.2]
 m := 1
 len _ := rfl
 set _ := rfl
 bel _ _ := rfl
def pairR : Rec (Int × Int) where
 enc p := [.int .i64 p.1, .int .i64 p.2]
 m := 1
 len _ := rfl
 set _ := rfl
 bel _ _ := rfl
theorem ent_val (p : ByteArray × Int) : entR.val p = .agg ⟨[.string p.1, .int .i64 p.2]⟩ := rfl
theorem pair_val (p : Int × Int) : pairR.val p = .agg ⟨[.int .i64 p.1, .int .i64 p.2]⟩ := rfl
structure Pb where
 uses : Int
 kl : Option Bool
 left : List (ByteArray × Int)
 most : Int
 kn : Option Bool
 never : List (Int × Int)
def Pb.cells (p : Pb) : List Value := [.int .i64 p.uses, entR.o p.kl p.left, .int .i64 p.most, pairR.o p.kn p.never]
def Pb.val (p : Pb) : Value := .agg ⟨p.cells⟩
def Pb.obj (p : Pb) : AObj := .cells 26 p.cells 0
structure PbOk (p : Pb) : Prop where
 kl : Rec.Ok p.kl p.left
 kn : Rec.Ok p.kn p.never
 u : -9223372036854775808 ≤ p.uses ∧ p.uses ≤ 9223372036854775807
 m : -9223372036854775808 ≤ p.most ∧ p.most ≤ 9223372036854775807
 nl : p.left.length ≤ 40
 nn : p.never.length ≤ 40
theorem Pb.reify (p : Pb) (h : Heap) (n : Nat) : Bm.reify E.P (n + 1) h p.val = some p.val := by
 have hc : p.cells.all (settled depth) = true := by
  unfold Pb.cells depth
  simp only [List.all_cons, List.all_nil, set_int, Rec.o_set, Bool.and_self]
 show (reifyC E.P n h p.cells).map _ = _
 rw [reifyC_set hc]; rfl
theorem Pb.set (p : Pb) : settled depth p.val = true := by
 show p.cells.all (settled 7) = true
 unfold Pb.cells
 simp only [List.all_cons, List.all_nil, set_int, Rec.o_set, Bool.and_self]
theorem Pb.bel (p : Pb) (n : Nat) : belowO n p.obj = true := by
 show p.cells.all (below 8 n) = true
 unfold Pb.cells
 simp only [List.all_cons, List.all_nil, bel_int, Rec.o_bel, Bool.and_self]
theorem lit_int (h : Heap) (z : Int) : buildSliceT (some ⟨3, 1, 8, .int .i64 0, ⟨some false, some 1⟩⟩) false h 1 #[(0, .int .i64 z)] = some (lst true (intE.vals [z]), h) := Enc.lit (O := intE) z rfl rfl rfl
theorem lit_none (h : Heap) (b : Bool) : buildSliceT (some ⟨3, 1, 8, .int .i64 0, ⟨some false, some 1⟩⟩) b h 0 #[] = some (lst true [], h) := build_none'.trans rfl
theorem sI1 : szOf E.P 3 = some 1 := by kernel_rfl
theorem gI1 : aggT E.P 3 = some false := by kernel_rfl
def eqG {α : Type} [DecidableEq α] (a b : List α) : Bool := decide (a = b)
theorem eqG_cons {α : Type} [DecidableEq α] {a b : α} {x y : List α} : eqG (a :: x) (b :: y) = (decide (a = b) && eqG x y) := by
 unfold eqG; simp only [List.cons.injEq, Bool.decide_and]
def idxB {α : Type} (f : α → Bool) : List α → Int → Int
 | [], _ => -1
 | a :: l, i => if f a = true then i else idxB f l (i + 1)
theorem idxB_cons {α : Type} (f : α → Bool) (a : α) (l : List α) (i : Int) : idxB f (a :: l) i = if f a = true then i else idxB f l (i + 1) := rfl
open Cp (badP hasP)
end Go.Proofs.Ytcnafncmfiogcaa.Bm
namespace Go.Proofs.Ytcnafncmfiogcaa.Bm
open Go Go.RowKit
variable {h : Heap} {P : Program}
def cAt (b j : Nat) : Value := .pointer (some ⟨b, j, none⟩)
theorem arr_idx {len b off u : Nat} {k : IntKind} {g : Option Bool} (hu : u < len) : indexAddrT (.arr len ⟨g, some 1⟩) (.pointer (some ⟨b, off, none⟩)) (.int k (u : Int)) = some (cAt b (off + u)) := by
 show (if 0 ≤ (u : Int) ∧ (u : Int) < (len : Int) then (some 1).map fun s => Value.pointer (some (shift ⟨b, off, none⟩ ((u : Int).toNat * s))) else none) = _
 rw [if_pos ⟨by omega, by omega⟩, Int.toNat_natCast]
 simp [shift, cAt]
theorem arr_idxN {len b off u s : Nat} {k : IntKind} {g : Option Bool} (hu : u < len) : indexAddrT (.arr len ⟨g, some s⟩) (.pointer (some ⟨b, off, none⟩)) (.int k (u : Int)) = some (cAt b (off + u * s)) := by
 show (if 0 ≤ (u : Int) ∧ (u : Int) < (len : Int) then (some s).map fun s => Value.pointer (some (shift ⟨b, off, none⟩ ((u : Int).toNat * s))) else none) = _
 rw [if_pos ⟨by omega, by omega⟩, Int.toNat_natCast]
 simp [shift, cAt]
theorem arr_idxC {len b off u : Nat} {k : IntKind} {g : Option Bool} (hu : u < len) : indexAddrT (.arr len ⟨g, some 1⟩) (cAt b off) (.int k (u : Int)) = some (cAt b (off + u)) := arr_idx hu
theorem obj_row {b : Nat} {t : TypeId} {c : List Value} (hob : h[b]? = some (.cells t c 0)) {j : Nat} : rowOf h ⟨b, j, none⟩ = some c := by
 unfold rowOf
 show (match h[b]? with | some (.cells _ c g) => _ | _ => none) = _
 rw [hob]; rfl
theorem obj_load {b j : Nat} {t : TypeId} {c : List Value} {v : Value} {sz : Option Nat} (hob : h[b]? = some (.cells t c 0)) (hc : c[j]? = some v) : loadT ⟨some false, sz⟩ h (cAt b j) = some v := by
 unfold cAt
 rw [load_one, obj_row hob, Option.bind_some, hc]
theorem obj_store {b j lo : Nat} {t : TypeId} {c : List Value} {v : Value} (hob : h[b]? = some (.cells t c 0)) (hj : j < c.length) (hlo : lo ≤ b) (hv : cellsOf v = some [v]) : storeT (some 1) h lo v (cAt b j) = some (h.set b (.cells t (c.set j v) 0)) := by
 unfold cAt
 rw [store_ptr, hv, Option.bind_some, if_pos (show 1 = [v].length from rfl)]
 unfold wrN
 show (match h[b]? with | some (.cells t c g) => _ | _ => none) = _
 rw [hob]
 show (if _ then _ else none) = _
 rw [if_pos ⟨hlo, rfl, by simp, by simp; omega⟩]
 show some (h.set b (.cells t (splice c j [v]) 0)) = _
 rw [splice_one hj]
theorem obj_all {b n : Nat} {t : TypeId} {c : List Value} (hob : h[b]? = some (.cells t c 0)) (hn : c.length = n) : loadT ⟨some true, some n⟩ h (cAt b 0) = some (.agg ⟨c⟩) := by
 unfold cAt
 rw [load_agg, obj_row hob, Option.bind_some]
 show (if 0 + n ≤ c.length then some (Value.agg ((c.drop 0).take n).toArray) else none) = _
 rw [if_pos (by omega), List.drop_zero, List.take_of_length_le (by omega)]
theorem obj_put {b n lo : Nat} {t : TypeId} {c d : List Value} (hob : h[b]? = some (.cells t c 0)) (hn : c.length = n) (hd : d.length = n) (h0 : 0 < n) (hlo : lo ≤ b) : storeT (some n) h lo (.agg ⟨d⟩) (cAt b 0) = some (h.set b (.cells t d 0)) := by
 unfold cAt
 rw [store_ptr, cellsOf_agg, Option.bind_some, if_pos hd.symm]
 unfold wrN
 show (match h[b]? with | some (.cells t c g) => _ | _ => none) = _
 rw [hob]
 show (if _ then _ else none) = _
 rw [if_pos ⟨hlo, rfl, by show 0 < d.length; omega, by show 0 + d.length ≤ c.length; omega⟩]
 show some (h.set b (.cells t (splice c 0 d) 0)) = _
 unfold splice
 rw [List.take_zero, List.nil_append, List.drop_of_length_le (by omega), List.append_nil]
theorem obj_frz {b lo : Nat} {t : TypeId} {c : List Value} (hob : h[b]? = some (.cells t c 0)) (hs : szOf P t = some c.length) (ha : aggT P t = some true) (hlo : lo ≤ b) (hc : c.all (settled 8) = true) :
  freezeV P depth lo h (cAt b 0) = some (cptr (.agg ⟨c⟩), h.set b .dead) := by
 unfold cAt
 rw [frz_ptr8 hob hs ha hlo, if_pos hc]; rfl
theorem isCp_cptr {v : Value} : isCp (cptr v) = true := rfl
theorem rop_loadC {E : Env} {C : Callee} {lo : Nat} {k : TI} {x : Operand} {ρ : Operand → Value} (hc : isCp (ρ x) = true) : ropR E C lo true (.load k x) ρ h = (loadT k h (ρ x)).map (·, h) := by
 show (if (true && !isCp (ρ x)) = true then none else _) = _
 rw [hc]; rfl
end Go.Proofs.Ytcnafncmfiogcaa.Bm
namespace Go.Proofs.Ytcnafncmfiogcaa.Bm
open Go Go.RowKit
open Cp (Q nameB limS limQ mayQ prQ validQ badP hasP bitB)
def Pb.q (p : Pb) : Q := ⟨p.uses, p.left, p.most, p.never⟩
theorem pb_all (p : Pb) : p.cells.all (settled 8) = true := by
 unfold Pb.cells
 simp only [List.all_cons, List.all_nil, set_int, Rec.o_set, Bool.and_self]
theorem pb_bel (p : Pb) (d n : Nat) : p.cells.all (below (d + 1) n) = true := by
 unfold Pb.cells
 simp only [List.all_cons, List.all_nil, bel_int, Rec.o_bel, Bool.and_self]
theorem ints_bel (L : List Int) (d n : Nat) : (intE.vals L).all (below (d + 1) n) = true := by
 rw [List.all_eq_true]
 intro v hv
 obtain ⟨a, _, rfl⟩ := List.mem_map.1 hv
 rfl
end Go.Proofs.Ytcnafncmfiogcaa.Bm
namespace Go.Proofs.Ytcnafncmfiogcaa.Bm
open Go Go.RowKit
open Cp (Q nameB limS limQ mayQ prQ validQ badP hasP bitB)
theorem minI (a b : Int) : aMinMax false [.int .i64 a, .int .i64 b] = some (.int .i64 (min a b)) := by
 show some (Value.int .i64 (if b < a then b else a)) = _
 congr 2
 omega
theorem maxI (a b : Int) : aMinMax true [.int .i64 a, .int .i64 b] = some (.int .i64 (max a b)) := by
 show some (Value.int .i64 (if b > a then b else a)) = _
 congr 2
 omega
end Go.Proofs.Ytcnafncmfiogcaa.Bm
namespace Go.Proofs.Ytcnafncmfiogcaa.Bm
open Go Go.RowKit
open Cp (Q nameB limS limQ mayQ prQ validQ badP hasP bitB)
theorem pb_ld (p : Pb) (j : Nat) (v : Value) (h : p.cells[j]? = some v) (t : Heap) : loadT ⟨some false, some 1⟩ (AObj.cells 26 p.cells 0 :: t) (.pointer (some ⟨0, j, none⟩)) = some v := obj_load (b := 0) (j := j) rfl h
end Go.Proofs.Ytcnafncmfiogcaa.Bm
namespace Go.Proofs.Ytcnafncmfiogcaa.Bm
open Go Go.RowKit
open Cp (Q nameB limS limQ mayQ prQ validQ badP hasP bitB)
theorem bit_all : ∀ w : Fin 64, ∀ u : Fin 6, IntKind.i64.wrap ((BitVec.ofInt 64 ((w.val : Int).fdiv (2 ^ (min (u.val : Int).toNat 64))) &&& BitVec.ofInt 64 1).toNat) = (if bitB w.val u.val = true then 1 else 0) := by decide +kernel
theorem bit_rem : ∀ w : Fin 64, ∀ u : Fin 6, ((w.val : Int).fdiv (2 ^ (min (u.val : Int).toNat 64))).tmod 2 = (if bitB w.val u.val = true then 1 else 0) := by decide +kernel
theorem shr_bit {w u : Int} (hw : 0 ≤ w ∧ w ≤ 63) (hu : 0 ≤ u ∧ u < 6) : ∃ z, aBin E.P .shr 3 (.int .i64 w) (.int .i64 u) = some (.int .i64 z) ∧ aBin E.P .and 3 (.int .i64 z) (.int .i64 1) = some (.int .i64 (if bitB w u = true then 1 else 0)) ∧
  aBin E.P .rem 3 (.int .i64 z) (.int .i64 2) = some (.int .i64 (if bitB w u = true then 1 else 0)) := by
 have h1 := bit_all ⟨w.toNat, by omega⟩ ⟨u.toNat, by omega⟩
 have h2 := bit_rem ⟨w.toNat, by omega⟩ ⟨u.toNat, by omega⟩
 have ew : ((w.toNat : Nat) : Int) = w := by omega
 have eu : ((u.toNat : Nat) : Int) = u := by omega
 simp only [ew, eu] at h1 h2
 refine ⟨w.fdiv (2 ^ (min u.toNat 64)), ?_, ?_, ?_⟩
 ·show (if u < 0 then none else some (Value.int .i64 (w.fdiv (2 ^ (min u.toNat 64))))) = _
  rw [if_neg (by omega)]
 ·show some (Value.int .i64 (IntKind.i64.wrap ((BitVec.ofInt 64 (w.fdiv (2 ^ (min u.toNat 64))) &&& BitVec.ofInt 64 1).toNat))) = _
  rw [h1]
 ·show (if (2 : Int) = 0 then none else some (Value.int .i64 ((w.fdiv (2 ^ (min u.toNat 64))).tmod 2))) = _
  rw [if_neg (by decide), h2]
structure ChV (h : Heap) (cv : Value) (c : List Int) : Prop where
 len : ∀ e, lenT .sl (h ++ e) cv = some (.int .i64 c.length)
 last : ∀ e (hc : c ≠ []), ∃ a, indexAddrT (.sl 3 ⟨some false, some 1⟩) cv (.int .i64 ((c.length : Int) - 1)) = some a ∧ loadT ⟨some false, some 1⟩ (h ++ e) a = some (.int .i64 (c.getLast hc))
theorem st_i5 {L : List Int} {u : Nat} (hL : L.length = 6) (hu : u < 6) : indexAddrT (.arr 6 ⟨some false, some 1⟩) (cptr (.agg ⟨intE.vals L⟩)) (.int .i64 (u : Int)) = some (cptr (.int .i64 (L[u]'(by omega)))) := by
 rw [index_arrC, if_pos ⟨by omega, by omega⟩]
 show ((⟨intE.vals L⟩ : Array Value)[(u : Int).toNat * 1]?).map cptr = _
 rw [Int.toNat_natCast, Nat.mul_one, List.getElem?_toArray, Enc.vals_get (by omega)]; rfl
theorem app_get0 {h : Heap} {a : AObj} {e : Heap} : (h ++ a :: e)[h.length]? = some a := by rw [List.getElem?_append_right (Nat.le_refl _), Nat.sub_self]; rfl
theorem app_set0 {h : Heap} {a b : AObj} {e : Heap} : (h ++ a :: e).set h.length b = h ++ b :: e := by rw [List.set_append_right _ _ (Nat.le_refl _), Nat.sub_self]; rfl
theorem app_get1 {h : Heap} {a b : AObj} {e : Heap} : (h ++ a :: b :: e)[h.length + 1]? = some b := by rw [List.getElem?_append_right (by omega), show h.length + 1 - h.length = 1 by omega]; rfl
end Go.Proofs.Ytcnafncmfiogcaa.Bm
namespace Go.Proofs.Ytcnafncmfiogcaa.Bm
open Go Go.RowKit
open Cp (Q nameB limS limQ mayQ prQ validQ badP hasP bitB)
structure AOk (A : List Int) : Prop where
 len : A.length ≤ 13
 a : ∀ a ∈ A, 0 ≤ a ∧ a ≤ 1099511627776
structure LOk (L : List Int) : Prop where
 len : L.length = 6
 b : ∀ x ∈ L, -4611686018427387904 ≤ x ∧ x ≤ 9223372036854775807
end Go.Proofs.Ytcnafncmfiogcaa.Bm
namespace Go.Proofs.Ytcnafncmfiogcaa.Cp
def Small (n : Nat) (t : List Br) : Prop := ∀ b ∈ t, 0 ≤ b.kids ∧ b.kids ≤ (n : Int)
theorem next_no {q : Q} {s : Nd} {u : Int} (h : mayQ q s.c.getLast? u = false) : next (prQ q) s u = none := by
 unfold next
 cases s.rem with
 | nil => rfl
 | cons a r => exact if_neg fun k => by have k1 : mayQ q s.c.getLast? u = true := k.1; rw [h] at k1; exact absurd k1 (by decide)
theorem next_may {q : Q} {s : Nd} {u a : Int} {r : List Int} (hr : s.rem = a :: r) (h : mayQ q s.c.getLast? u = true) : next (prQ q) s u = if 0 ≤ s.left u - a ∧ s.v + a ≤ q.most then some (take s u a r) else none := by
 unfold next
 rw [hr]
 show (if mayQ q s.c.getLast? u = true ∧ 0 ≤ s.left u - a ∧ s.v + a ≤ q.most then _ else _) = _
 by_cases k : 0 ≤ s.left u - a ∧ s.v + a ≤ q.most
 ·rw [if_pos k, if_pos ⟨h, k⟩]
 ·rw [if_neg k, if_neg fun x => k x.2]
end Go.Proofs.Ytcnafncmfiogcaa.Cp
namespace Go.Proofs.Ytcnafncmfiogcaa.Bm
open Go Go.RowKit
theorem LL_ex {k : List Nat × List Nat} {b : Body} {σ₀ : Slots} {h₀ : Heap} {α : Type} (a₀ : α) (up : α → List (Nat × Value)) (H : α → Heap) (Q : Exit × Slots × Heap → Prop) (I : α → Prop) (ms : α → Nat)
  (hI : I a₀) (e0 : sets (up a₀) (forget k.1 σ₀) = forget k.1 σ₀) (e1 : H a₀ = h₀)
  (step : ∀ (nx : Body) a, I a → (∀ a', ms a' < ms a → I a' → ∃ r, nx (sets (up a') (forget k.1 σ₀)) (H a') = some r ∧ Q r) →
   ∃ r, lopK k.1 k.2 nx (H a).length (b (forget k.1 (sets (up a) (forget k.1 σ₀))) (H a)) = some r ∧ Q r) :
  ∃ r, LL k b σ₀ h₀ = some r ∧ Q r := by
 have key : ∀ n a, ms a = n → I a → ∃ r, LL k b (sets (up a) (forget k.1 σ₀)) (H a) = some r ∧ Q r := by
  intro n
  induction n using Nat.strongRecOn with
  | _ n ih =>
   intro a ha hi
   rw [LL_go]
   exact step (LL k b) a hi fun a' hlt hi' => ih (ms a') (by omega) a' rfl hi'
 have h := key _ a₀ rfl hI
 rw [e0, e1] at h
 have e : LL k b (forget k.1 σ₀) h₀ = LL k b σ₀ h₀ := by
  rw [LL_go, LL_go, forget_twice]
 rw [e] at h
 exact h
end Go.Proofs.Ytcnafncmfiogcaa.Bm
