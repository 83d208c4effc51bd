/-
 Chapter 25: the state of a search, walked: how it begins. Conditions: problems with few elements.
-/
import Derived.Test.YtcclbpcifohhkaaGreatQT16
import Derived.Test.YtcclbpcifohhkaaGreatQT01
import Derived.Test.YtcclbpcifohhkaaGreatQT18
import Derived.Test.YtcclbpcifohhkaaGreatQT20
namespace Go.Proofs.YtcclbpcifohhkaaGreat.Bm
open Go Go.RowKit
structure Enc (α : Type) where
 e : α → Value
 one : ∀ a, one (e a) = true
 set : ∀ a n, settled (n + 1) (e a) = true
 bel : ∀ a d n, below (d + 1) n (e a) = true
 fits : ∀ a sz, fitsTT ⟨some false, sz⟩ (e a) = true
namespace Enc
variable {α : Type} {O : Enc α} {h : Heap} {l m : List α} {P : Program}
def vals (O : Enc α) (l : List α) : List Value := l.map O.e
def o (O : Enc α) (k : Option Bool) (l : List α) : Value := match k with | none => .slice none 0 0 | some b => lst b (O.vals l)
def Ok (k : Option Bool) (l : List α) : Prop := k = none → l = []
theorem ok_some {b : Bool} : Ok (some b) l := fun h => by cases h
theorem ok_nil {k : Option Bool} : Ok k ([] : List α) := fun _ => rfl
def row (O : Enc α) (t : TypeId) (l : List α) : AObj := .cells t (O.vals l) 1
def part (b n : Nat) (l : List α) : Value := .slice (some ⟨b, 0, some l.length⟩) n l.length
def sl (b : Nat) (l : List α) : Value := .slice (some ⟨b, 0, some l.length⟩) l.length l.length
def at_ (b : Nat) (l : List α) (i : Nat) : Value := .pointer (some ⟨b, i, some l.length⟩)
theorem vals_len : (O.vals l).length = l.length := List.length_map _
theorem vals_app : O.vals (l ++ m) = O.vals l ++ O.vals m := List.map_append
theorem e_cells (a : α) : cellsL (O.e a) = [O.e a] := by
 have := O.one a
 unfold cellsL
 split
 ·rename_i h; rw [h] at this; cases this
 ·rfl
theorem vals_all (l : List α) : (O.vals l).all (fun v => (cellsL v).length == 1) = true := by
 rw [List.all_eq_true]
 intro v hv
 obtain ⟨a, _, rfl⟩ := List.mem_map.1 hv
 rw [e_cells]; rfl
theorem vals_set (l : List α) : (O.vals l).all (settled 8) = true := by
 rw [List.all_eq_true]
 intro v hv
 obtain ⟨a, _, rfl⟩ := List.mem_map.1 hv
 exact O.set a 7
theorem vals_flat : ∀ l : List α, (O.vals l).flatMap cellsL = O.vals l
 | [] => rfl
 | a :: l => by
  show cellsL (O.e a) ++ (O.vals l).flatMap cellsL = O.e a :: O.vals l
  rw [e_cells, vals_flat l]; rfl
theorem vals_get {i : Nat} (hi : i < l.length) : (O.vals l)[i]? = some (O.e l[i]) := by
 unfold vals; rw [List.getElem?_map, List.getElem?_eq_getElem hi]; rfl
theorem vals_take (n : Nat) : (O.vals l).take n = O.vals (l.take n) := by unfold vals; rw [List.map_take]
theorem vals_drop (n : Nat) : (O.vals l).drop n = O.vals (l.drop n) := by unfold vals; rw [List.map_drop]
theorem vals_put {i : Nat} {a : α} : (O.vals l).set i (O.e a) = O.vals (l.set i a) := by unfold vals; rw [List.map_set]
theorem o_len {k : Option Bool} (hk : Ok k l) : lenT .sl h (O.o k l) = some (.int .i64 l.length) := by
 cases k with
 | none => rw [hk rfl]; rfl
 | some b => show lenT .sl h (lst b (O.vals l)) = _; rw [len_lst, vals_len]
theorem o_one {k : Option Bool} : Bm.one (O.o k l) = true := by cases k <;> rfl
theorem o_set {k : Option Bool} {n : Nat} : settled (n + 1) (O.o k l) = true := by cases k <;> rfl
theorem o_bel {k : Option Bool} {d n : Nat} : below (d + 1) n (O.o k l) = true := by cases k <;> rfl
theorem o_fits {k : Option Bool} {sz : Option Nat} : fitsTT ⟨some false, sz⟩ (O.o k l) = true := by cases k <;> rfl
theorem o_reify {k : Option Bool} {n : Nat} : reify P (n + 1) h (O.o k l) = some (O.o k l) := by cases k <;> rfl
theorem o_cellsOf {k : Option Bool} : cellsOf (O.o k l) = some [O.o k l] := by cases k <;> rfl
theorem o_frz {k : Option Bool} {lo : Nat} : freezeV P depth lo h (O.o k l) = some (O.o k l, h) := by cases k <;> rfl
theorem cells_tree {x : Bool} : sliceCells h 1 (lst x (O.vals l)) = some (O.vals l, l.length) := by
 rw [cells_lst (vals_all l), vals_flat, vals_len]
theorem index_tree {x : Bool} {t : TypeId} {i : Nat} {k : IntKind} (hi : i < l.length) : indexAddrT (.sl t ⟨some false, some 1⟩) (lst x (O.vals l)) (.int k (i : Int)) = some (cptr (O.e l[i])) := by
 rw [index_lst, if_pos (by omega), Int.toNat_natCast, vals_get hi, Option.bind_some, O.fits, e_cells]; rfl
theorem index_o {x : Option Bool} {t : TypeId} {i : Nat} {k : IntKind} (hx : Ok x l) (hi : i < l.length) : indexAddrT (.sl t ⟨some false, some 1⟩) (O.o x l) (.int k (i : Int)) = some (cptr (O.e l[i])) := by
 cases x with
 | none => rw [hx rfl] at hi; exact absurd hi (Nat.not_lt_zero i)
 | some b => exact index_tree hi
theorem load_e (a : α) {sz : Option Nat} : loadT ⟨some false, sz⟩ h (cptr (O.e a)) = some (O.e a) := by rw [load_cptr, O.fits, if_pos rfl]
theorem drop_tree {x : Bool} {t : TypeId} {g : Option Bool} {n : Nat} {z : Int} {k : IntKind} (hz : z = (n : Nat)) (hn : n ≤ l.length) : sliceT (.sl t ⟨g, some 1⟩) h (lst x (O.vals l)) (some (.int k z)) none none = some (lst x (O.vals (l.drop n))) := by
 rw [slice_drop (vals_all l) hz (by rw [vals_len]; exact hn), vals_drop]
theorem row_bel {n : Nat} {t : TypeId} : belowO n (O.row t l) = true := by
 show (O.vals l).all (below 8 n) = true
 rw [List.all_eq_true]
 intro v hv
 obtain ⟨a, _, rfl⟩ := List.mem_map.1 hv
 exact O.bel a 7 n
theorem sl_bel {n d b : Nat} (hb : b < n) : below (d + 1) n (sl b l) = true := decide_eq_true hb
theorem part_len {b n : Nat} : lenT .sl h (part b n l) = some (.int .i64 n) := rfl
theorem sl_len {b : Nat} : lenT .sl h (sl b l) = some (.int .i64 l.length) := rfl
theorem part_index {b n i : Nat} {t : TypeId} {g : Option Bool} {k : IntKind} (hi : i < n) : indexAddrT (.sl t ⟨g, some 1⟩) (part b n l) (.int k (i : Int)) = some (at_ b l i) := by
 unfold part
 rw [index_slice, if_pos ⟨by omega, by omega⟩]
 show some (Value.pointer (some ⟨b, 0 + (i : Int).toNat * 1, some l.length⟩)) = _
 rw [Int.toNat_natCast, Nat.mul_one, Nat.zero_add]; rfl
theorem row_of {b n : Nat} {t : TypeId} (hob : h[b]? = some (O.row t l)) (hn : n = l.length) {off : Nat} : rowOf h ⟨b, off, some n⟩ = some (O.vals l) := by
 subst hn
 unfold rowOf
 show (match h[b]? with | some (.cells _ c g) => _ | _ => none) = _
 rw [hob]
 show (if stampOk _ 1 (O.vals l).length = true then some (O.vals l) else none) = _
 rw [if_pos (by unfold stampOk; rw [vals_len]; simp)]
theorem fits_row {b n : Nat} {t : TypeId} (hob : h[b]? = some (O.row t l)) (hn : n = l.length) {off : Nat} : fitsRow h ⟨b, off, some n⟩ 1 = true := by
 subst hn
 unfold fitsRow
 show (match h[b]? with | some (.cells _ c g) => _ | _ => false) = true
 rw [hob]
 show (stampOk _ 1 (O.vals l).length && _) = true
 unfold stampOk; rw [vals_len]; simp
theorem load_at {b i : Nat} {t : TypeId} {sz : Option Nat} (hob : h[b]? = some (O.row t l)) (hi : i < l.length) : loadT ⟨some false, sz⟩ h (at_ b l i) = some (O.e l[i]) := by
 unfold at_
 rw [load_one, row_of hob rfl, Option.bind_some]
 exact vals_get hi
theorem cells_part {b n : Nat} {t : TypeId} (hob : h[b]? = some (O.row t l)) (hn : n ≤ l.length) : sliceCells h 1 (part b n l) = some (O.vals (l.take n), (l.take n).length) := by
 unfold part
 have e : (l.take n).length = n := by rw [List.length_take]; omega
 rw [cells_slice, e]
 by_cases h0 : n = 0
 ·subst h0; rw [if_pos rfl]; rfl
 ·rw [if_neg h0]
  show rowS _ _ _ h[b]? = _
  rw [hob]
  show rowS _ _ _ (some (.cells t (O.vals l) 1)) = _
  rw [rowS_cells, if_pos ⟨by unfold stampOk; rw [vals_len]; simp, .inr rfl, by rw [vals_len]; simp; omega⟩, List.drop_zero, Nat.mul_one, vals_take]
theorem reify_part {b n d : Nat} {t : TypeId} (hob : h[b]? = some (O.row t l)) (hn : n ≤ l.length) (hs : szOf P t = some 1) (ha : aggT P t = some false) : reify P (d + 1) h (part b n l) = some (lst false (O.vals (l.take n))) := by
 unfold part
 rw [reify_slice]
 by_cases h0 : n = 0
 ·subst h0; rfl
 ·rw [if_neg h0]
  show reifyS P d h h[b]? _ _ = _
  rw [hob]
  show reifyS P d h (some (.cells t (O.vals l) 1)) _ _ = _
  rw [reifyS_cells, hs, Option.bind_some, if_pos ⟨by unfold stampOk; rw [vals_len]; simp, Nat.one_pos, by rw [vals_len]; simp; omega⟩, List.drop_zero, Nat.mul_one, vals_take,
   reifyC_set (vals_set _), Option.bind_some, elems_one ha hs]; rfl
theorem reify_sl {b d : Nat} {t : TypeId} (hob : h[b]? = some (O.row t l)) (hs : szOf P t = some 1) (ha : aggT P t = some false) : reify P (d + 1) h (sl b l) = some (lst false (O.vals l)) := by
 have := reify_part (P := P) (d := d) hob (Nat.le_refl l.length) hs ha
 rw [List.take_length] at this
 exact this
theorem frz_part {b n lo : Nat} {t : TypeId} (hob : h[b]? = some (O.row t l)) (hn : n ≤ l.length) (hs : szOf P t = some 1) (ha : aggT P t = some false) (hlo : lo ≤ b) :
  freezeV P depth lo h (part b n l) = some (lst false (O.vals (l.take n)), if n = 0 then h else h.set b .dead) := by
 have e : ((O.vals l).drop 0).take (n * 1) = O.vals (l.take n) := by rw [List.drop_zero, Nat.mul_one, vals_take]
 exact frz_row1 (a := ⟨b, 0, some l.length⟩) (t := t) (c := O.vals l) (g := 1) hob hs hlo (by unfold stampOk; rw [vals_len]; simp) Nat.one_pos (by rw [vals_len]; simp; omega) (by rw [e]; exact vals_set _)
  (by rw [e]; exact elems_one ha hs) (by rw [vals_len, List.length_take]; omega)
theorem frz_sl {b lo : Nat} {t : TypeId} (hob : h[b]? = some (O.row t l)) (hs : szOf P t = some 1) (ha : aggT P t = some false) (hlo : lo ≤ b) :
  freezeV P depth lo h (sl b l) = some (lst false (O.vals l), if l.length = 0 then h else h.set b .dead) := by
 have := frz_part (P := P) (lo := lo) hob (Nat.le_refl l.length) hs ha hlo
 rw [List.take_length] at this
 exact this
theorem part_take {b n m : Nat} {t : TypeId} {g : Option Bool} {e : TypeId} {k : IntKind} (hob : h[b]? = some (O.row t l)) (hm : m ≤ l.length) : sliceT (.sl e ⟨g, some 1⟩) h (part b n l) none (some (.int k (m : Int))) none = some (part b m l) := by
 have hf := fits_row hob rfl (off := 0)
 unfold part
 show (some 1).bind (fun s => if fitsRow h ⟨b, 0, some l.length⟩ s then _ else none) = _
 rw [Option.bind_some, if_pos hf]
 show (bound none l.length l.length).bind (fun mm => (bound (some (.int k (m : Int))) mm n).bind fun u => (bound none u 0).map fun l' => rowSl false ⟨b, 0, some l.length⟩ 1 mm u l') = _
 rw [bound_no, Option.bind_some, bound_nat hm, Option.bind_some, bound_no]
 show some (rowSl false ⟨b, 0, some l.length⟩ 1 l.length m 0) = _
 unfold rowSl
 rw [if_neg (by simp)]
 simp [shift]
theorem app {el : El} {lo b : Nat} {t : TypeId} {u : Value} (hel : el.size = 1) (hob : h[b]? = some (O.row t l)) (hu : sliceCells h 1 u = some (O.vals m, m.length)) (hlo : lo ≤ b) (hb : (l.length + m.length) * el.bytes ≤ 2 ^ 47) :
  appendT (some el) h lo false (sl b l) u = some (sl b (l ++ m), h.set b (O.row t (l ++ m))) := by
 have hob' : h[b]? = some (.cells t (O.vals l) 1) := hob
 unfold sl
 rw [append_slice, hel, hu]
 show appS el h lo false _ _ _ h[b]? _ = _
 by_cases hm : m.length = 0
 ·have : m = [] := List.eq_nil_of_length_eq_zero hm
  subst this
  have hf : fitsRow h ⟨b, 0, some l.length⟩ el.size = true := by rw [hel]; exact fits_row hob rfl
  unfold appS
  simp only [List.append_nil, List.length_nil, Nat.add_zero, Nat.le_refl, if_true, hf, Option.bind_some]
  congr 2
  refine (List.ext_getElem? fun i => ?_)
  rw [List.getElem?_set]
  split
  ·rename_i e; subst e
   split
   ·exact hob
   ·rename_i hlt; rw [List.getElem?_eq_none (by omega)]
  ·rfl
 ·rw [hob']
  refine (appS_grown (m := m.length) hm vals_len.symm rfl hel (by rw [vals_len]; omega) hlo hb).trans ?_
  unfold row
  rw [vals_app, List.length_append, vals_len, vals_len, List.length_append]
theorem app_room {el : El} {lo b i : Nat} {t : TypeId} {u : Value} (hel : el.size = 1) (hob : h[b]? = some (O.row t l)) (hu : sliceCells h 1 u = some (O.vals m, m.length)) (hm : m ≠ []) (hlo : lo ≤ b) (hi : i + m.length ≤ l.length) :
  appendT (some el) h lo false (part b i l) u = some (part b (i + m.length) (l.take i ++ m ++ l.drop (i + m.length)), h.set b (O.row t (l.take i ++ m ++ l.drop (i + m.length)))) := by
 have hob' : h[b]? = some (.cells t (O.vals l) 1) := hob
 have hm0 : m.length ≠ 0 := fun e => hm (List.eq_nil_of_length_eq_zero e)
 have hf : fitsRow h ⟨b, 0, some l.length⟩ el.size = true := by rw [hel]; exact fits_row hob rfl
 have hlen : (l.take i ++ m ++ l.drop (i + m.length)).length = l.length := by simp; omega
 unfold part
 rw [append_slice, hel, hu]
 show appS el h lo false _ _ _ h[b]? _ = _
 unfold appS
 simp only [Option.bind_some]
 rw [if_pos hi, if_neg hm0, hf]
 simp only [Bool.not_true, Bool.or_false, Bool.false_eq_true, if_false]
 unfold wrN
 show Option.map _ (match h[b]? with | some (.cells t c g) => _ | _ => none) = _
 rw [hob']
 show Option.map _ (if _ then _ else none) = _
 rw [if_pos ⟨hlo, by unfold shift stampOk; rw [vals_len]; simp, by rw [vals_len]; omega, by unfold shift; rw [vals_len, vals_len, hel]; simp; omega⟩]
 show some (_, h.set b (.cells t (splice (O.vals l) (0 + i * el.size) (O.vals m)) 1)) = _
 have e : splice (O.vals l) (0 + i * el.size) (O.vals m) = O.vals (l.take i ++ m ++ l.drop (i + m.length)) := by
  unfold splice
  rw [hel, Nat.zero_add, Nat.mul_one, vals_len, vals_take, vals_drop, vals_app, vals_app]
 rw [e, hlen]; rfl
theorem app_nil {el : El} {lo : Nat} {st : Bool} {u : Value} (hel : el.size = 1) (hu : sliceCells h 1 u = some (O.vals m, m.length)) (hm : m ≠ []) (hb : m.length * el.bytes ≤ 2 ^ 47) :
  appendT (some el) h lo st (.slice none 0 0) u = some (sl h.length m, h ++ [O.row el.e m]) := by
 have hm0 : m.length ≠ 0 := fun e => hm (List.eq_nil_of_length_eq_zero e)
 rw [append_nil, hel, hu]
 simp only [Option.bind_some]
 rw [if_neg hm0, if_pos hb, vals_len]; rfl
theorem app_tree {el : El} {lo : Nat} {st : Bool} {u : Value} (hel : el.size = 1) (hu : sliceCells h 1 u = some (O.vals m, m.length)) (hm : m ≠ []) (hb : (l.length + m.length) * el.bytes ≤ 2 ^ 47) :
  appendT (some el) h lo st (lst true (O.vals l)) u = some (sl h.length (l ++ m), h ++ [O.row el.e (l ++ m)]) := by
 have hm0 : m.length ≠ 0 := fun e => hm (List.eq_nil_of_length_eq_zero e)
 rw [append_lst, hel, hu]
 simp only [Option.bind_some]
 rw [if_neg hm0, if_pos ⟨vals_all l, by rw [vals_len]; exact hb⟩, vals_len, vals_flat, ← vals_app, vals_len]
 unfold sl
 rw [List.length_append]
 rfl
theorem app_none {el : El} {lo : Nat} {st : Bool} {u : Value} (hel : el.size = 1) (hu : sliceCells h 1 u = some (O.vals ([] : List α), 0)) : appendT (some el) h lo st (lst true []) u = some (lst true [], h) := by
 rw [append_lst, hel, hu]; rfl
theorem lit {el : El} (a : α) (hel : el.size = 1) (hz : el.z.cells.size = 1) (hk : el.k = ⟨some false, some 1⟩) : buildSliceT (some el) false h 1 #[(0, O.e a)] = some (lst true (O.vals [a]), h) := by
 rw [build_one' (O.one a) hel hz, if_neg (by simp), if_pos (O.set a 7), hk]; rfl
end Enc
def intE : Enc Int := ⟨.int .i64, fun _ => rfl, fun _ _ => rfl, fun _ _ _ => rfl, fun _ _ => rfl⟩
end Go.Proofs.YtcclbpcifohhkaaGreat.Bm
namespace Go.Proofs.YtcclbpcifohhkaaGreat.Cp
structure Br where
 kids : Int
 bound : Int
deriving DecidableEq
structure Pr where
 may : Option Int → Int → Bool
 lim : Int → Int
 most : Int
structure Nd where
 c : List Int
 v : Int
 rem : List Int
 left : Int → Int
def us : List Int := [0, 1, 2, 3, 4, 5]
def take (s : Nd) (u a : Int) (r : List Int) : Nd := ⟨s.c ++ [u], s.v + a, r, fun w => if w = u then s.left u - a else s.left w⟩
def next (P : Pr) (s : Nd) (u : Int) : Option Nd :=
 match s.rem with
 | [] => none
 | a :: r => if P.may s.c.getLast? u = true ∧ 0 ≤ s.left u - a ∧ s.v + a ≤ P.most then some (take s u a r) else none
def root (P : Pr) (A : List Int) : Nd := ⟨[], 0, A, P.lim⟩
def run (P : Pr) : Nd → List Int → Option Nd
 | s, [] => some s
 | s, u :: c => match next P s u with | none => none | some t => run P t c
def fits (P : Pr) (A c : List Int) : Bool := (run P (root P A) c).isSome
def reach (P : Pr) (s : Nd) : Int := min (s.v + s.rem.sum) P.most
def conts (P : Pr) (s : Nd) : List Nd := us.filterMap (next P s)
structure Acc where
 val : Int
 best : List Int
 tree : List Br
def bump (b : Br) : Br := ⟨b.kids + 1, b.bound⟩
def enter (P : Pr) (s : Nd) (a : Acc) : Acc := ⟨if a.val < s.v then s.v else a.val, if a.val < s.v then s.c else a.best, a.tree ++ [⟨0, reach P s⟩]⟩
def loopF (f : Nd → Acc → Acc) (P : Pr) (s : Nd) (i : Nat) : List Int → Acc → Acc
 | [], a => a
 | u :: l, a => if a.tree.length ≤ 4000 then
   (match next P s u with
   | none => loopF f P s i l a
   | some t => loopF f P s i l (f t ⟨a.val, a.best, a.tree.modify i bump⟩))
  else a
def vis (P : Pr) : Nat → Nd → Acc → Acc
 | 0, s, a => enter P s a
 | n + 1, s, a => if (enter P s a).val < reach P s then loopF (vis P n) P s a.tree.length us (enter P s a) else enter P s a
abbrev VB := Int × List Int
def upd (s : Nd) (a : VB) : VB := if a.1 < s.v then (s.v, s.c) else a
def kidsU (f : Nd → VB → VB × List Br) : List Nd → VB → VB × List Br
 | [], a => (a, [])
 | t :: ts, a => ((kidsU f ts (f t a).1).1, (f t a).2 ++ (kidsU f ts (f t a).1).2)
def sr (P : Pr) : Nat → Nd → VB → VB × List Br
 | 0, s, a => (upd s a, [⟨0, reach P s⟩])
 | n + 1, s, a => if (upd s a).1 < reach P s then ((kidsU (sr P n) (conts P s) (upd s a)).1, ⟨(conts P s).length, reach P s⟩ :: (kidsU (sr P n) (conts P s) (upd s a)).2)
  else (upd s a, [⟨0, reach P s⟩])
def Acc.vb (a : Acc) : VB := (a.val, a.best)
theorem enter_vb (P : Pr) (s : Nd) (a : Acc) : (enter P s a).vb = upd s a.vb := by
 unfold enter Acc.vb upd
 by_cases h : a.val < s.v
 ·rw [if_pos h, if_pos h, if_pos h]
 ·rw [if_neg h, if_neg h, if_neg h]
theorem enter_val (P : Pr) (s : Nd) (a : Acc) : (enter P s a).val = (upd s a.vb).1 := congrArg Prod.fst (enter_vb P s a)
theorem enter_tree (P : Pr) (s : Nd) (a : Acc) : (enter P s a).tree = a.tree ++ [⟨0, reach P s⟩] := rfl
def Like (f : Nd → Acc → Acc) (g : Nd → VB → VB × List Br) : Prop :=
 ∀ s a, (a.tree.length + (g s a.vb).2.length ≤ 4000 → f s a = ⟨(g s a.vb).1.1, (g s a.vb).1.2, a.tree ++ (g s a.vb).2⟩)
  ∧ (4000 < a.tree.length + (g s a.vb).2.length → 4000 < (f s a).tree.length)
def Grows (f : Nd → Acc → Acc) : Prop := ∀ s a, a.tree.length ≤ (f s a).tree.length
theorem modify_len (t : List Br) (i : Nat) (f : Br → Br) : (t.modify i f).length = t.length := List.length_modify ..
theorem loopF_grows {f : Nd → Acc → Acc} (hf : Grows f) (P : Pr) (s : Nd) (i : Nat) : ∀ (l : List Int) (a : Acc), a.tree.length ≤ (loopF f P s i l a).tree.length
 | [], a => Nat.le_refl _
 | u :: l, a => by
  unfold loopF
  by_cases h : a.tree.length ≤ 4000
  ·rw [if_pos h]
   cases next P s u with
   | none => exact loopF_grows hf P s i l a
   | some t =>
    have h1 := hf t ⟨a.val, a.best, a.tree.modify i bump⟩
    rw [modify_len] at h1
    exact Nat.le_trans h1 (loopF_grows hf P s i l _)
  ·rw [if_neg h]; exact Nat.le_refl _
theorem enter_len (P : Pr) (s : Nd) (a : Acc) : (enter P s a).tree.length = a.tree.length + 1 := by rw [enter_tree, List.length_append]; rfl
theorem vis_grows (P : Pr) : ∀ n, Grows (vis P n)
 | 0 => fun s a => by show _ ≤ (enter P s a).tree.length; rw [enter_len]; omega
 | n + 1 => fun s a => by
  have h := enter_len P s a
  unfold vis
  by_cases q : (enter P s a).val < reach P s
  ·rw [if_pos q]
   have := loopF_grows (vis_grows P n) P s a.tree.length us (enter P s a)
   omega
  ·rw [if_neg q]; omega
theorem modify_append (t r : List Br) (i : Nat) (f : Br → Br) (h : i < t.length) : (t ++ r).modify i f = t.modify i f ++ r := by
 apply List.ext_getElem?
 intro j
 rw [List.getElem?_modify]
 by_cases hj : j < t.length
 ·rw [List.getElem?_append_left hj, List.getElem?_append_left (by rw [modify_len]; exact hj), List.getElem?_modify]
 ·have hj : t.length ≤ j := by omega
  have e : ¬ i = j := by omega
  rw [List.getElem?_append_right hj, List.getElem?_append_right (by rw [modify_len]; exact hj), modify_len]
  simp only [e, ↓reduceIte]
  cases r[j - t.length]? <;> rfl
def bumps (n : Nat) (t : List Br) (i : Nat) : List Br := t.modify i fun b => ⟨b.kids + n, b.bound⟩
theorem bumps_zero (t : List Br) (i : Nat) : bumps 0 t i = t := by
 have : (fun b : Br => (⟨b.kids + ((0 : Nat) : Int), b.bound⟩ : Br)) = id := by funext b; show (⟨b.kids + 0, b.bound⟩ : Br) = b; rw [Int.add_zero]
 unfold bumps; rw [this, List.modify_id]
theorem bumps_succ (n : Nat) (t : List Br) (i : Nat) : bumps n (t.modify i bump) i = bumps (n + 1) t i := by
 unfold bumps
 apply List.ext_getElem?
 intro j
 rw [List.getElem?_modify, List.getElem?_modify, List.getElem?_modify]
 by_cases h : i = j
 ·simp only [h, ↓reduceIte]
  cases t[j]? with
  | none => rfl
  | some b =>
   show some (⟨b.kids + 1 + n, b.bound⟩ : Br) = some ⟨b.kids + ((n + 1 : Nat) : Int), b.bound⟩
   have : b.kids + 1 + (n : Int) = b.kids + ((n + 1 : Nat) : Int) := by omega
   rw [this]
 ·simp only [h, ↓reduceIte]
  cases t[j]? <;> rfl
theorem bumps_last (n : Nat) (t : List Br) (b : Br) : bumps n (t ++ [b]) t.length = t ++ [⟨b.kids + n, b.bound⟩] := by
 unfold bumps
 apply List.ext_getElem?
 intro j
 rw [List.getElem?_modify]
 by_cases h : t.length = j
 ·subst h
  rw [List.getElem?_append_right (Nat.le_refl _), List.getElem?_append_right (Nat.le_refl _), Nat.sub_self]
  simp
 ·simp only [h, ↓reduceIte, id_map']
  by_cases q : j < t.length
  ·rw [List.getElem?_append_left q, List.getElem?_append_left q]
  ·rw [List.getElem?_append_right (by omega), List.getElem?_append_right (by omega)]
   have : j - t.length = (j - t.length - 1) + 1 := by omega
   rw [this]; rfl
theorem loopF_like {f : Nd → Acc → Acc} {g : Nd → VB → VB × List Br} (hf : Grows f) (h : Like f g) (P : Pr) (s : Nd) (i : Nat) : ∀ (l : List Int) (a : Acc), i < a.tree.length →
  (a.tree.length + (kidsU g (l.filterMap (next P s)) a.vb).2.length ≤ 4000 →
   loopF f P s i l a = ⟨(kidsU g (l.filterMap (next P s)) a.vb).1.1, (kidsU g (l.filterMap (next P s)) a.vb).1.2, bumps (l.filterMap (next P s)).length a.tree i ++ (kidsU g (l.filterMap (next P s)) a.vb).2⟩)
  ∧ (4000 < a.tree.length + (kidsU g (l.filterMap (next P s)) a.vb).2.length → 4000 < (loopF f P s i l a).tree.length)
 | [], a, _ => by
  refine ⟨fun _ => ?_, fun q => ?_⟩
  ·show a = ⟨a.val, a.best, bumps 0 a.tree i ++ []⟩
   rw [bumps_zero, List.append_nil]
  ·exact q
 | u :: l, a, hi => by
  unfold loopF
  by_cases h4 : a.tree.length ≤ 4000
  case neg =>
   rw [if_neg h4]
   exact ⟨fun q => absurd q (by omega), fun _ => by omega⟩
  rw [if_pos h4]
  cases hn : next P s u with
  | none =>
   rw [List.filterMap_cons_none hn]
   exact loopF_like hf h P s i l a hi
  | some t =>
   rw [List.filterMap_cons_some hn]
   have hs := h t ⟨a.val, a.best, a.tree.modify i bump⟩
   rw [show (⟨a.val, a.best, a.tree.modify i bump⟩ : Acc).vb = a.vb from rfl, show (⟨a.val, a.best, a.tree.modify i bump⟩ : Acc).tree = a.tree.modify i bump from rfl, modify_len] at hs
   simp only [kidsU, List.length_append]
   by_cases q : a.tree.length + (g t a.vb).2.length ≤ 4000
   ·rw [hs.1 q]
    have ih := loopF_like hf h P s i l ⟨(g t a.vb).1.1, (g t a.vb).1.2, a.tree.modify i bump ++ (g t a.vb).2⟩ (by show i < (a.tree.modify i bump ++ (g t a.vb).2).length; rw [List.length_append, modify_len]; omega)
    rw [show (⟨(g t a.vb).1.1, (g t a.vb).1.2, a.tree.modify i bump ++ (g t a.vb).2⟩ : Acc).vb = (g t a.vb).1 from rfl, show (⟨(g t a.vb).1.1, (g t a.vb).1.2, a.tree.modify i bump ++ (g t a.vb).2⟩ : Acc).tree = a.tree.modify i bump ++ (g t a.vb).2 from rfl, List.length_append, modify_len] at ih
    refine ⟨fun k => ?_, fun k => ih.2 (by omega)⟩
    rw [ih.1 (by omega)]
    have e : bumps (l.filterMap (next P s)).length (a.tree.modify i bump ++ (g t a.vb).2) i = bumps (t :: l.filterMap (next P s)).length a.tree i ++ (g t a.vb).2 := by
     rw [List.length_cons, ← bumps_succ]
     exact modify_append _ _ _ _ (by rw [modify_len]; exact hi)
    rw [e, List.append_assoc]
   ·refine ⟨fun k => absurd k (by omega), fun _ => ?_⟩
    have := hs.2 (by omega)
    exact Nat.lt_of_lt_of_le this (loopF_grows hf P s i l _)
theorem bump_new (P : Pr) (s : Nd) (a : Acc) (n : Nat) : bumps n (enter P s a).tree a.tree.length = a.tree ++ [⟨n, reach P s⟩] := by
 rw [enter_tree, bumps_last]
 show a.tree ++ [(⟨0 + n, reach P s⟩ : Br)] = _
 rw [Int.zero_add]
theorem sr_pos (P : Pr) (n : Nat) (s : Nd) (a : VB) (q : (upd s a).1 < reach P s) : sr P (n + 1) s a = ((kidsU (sr P n) (conts P s) (upd s a)).1, ⟨(conts P s).length, reach P s⟩ :: (kidsU (sr P n) (conts P s) (upd s a)).2) := if_pos q
theorem sr_neg (P : Pr) (n : Nat) (s : Nd) (a : VB) (q : ¬(upd s a).1 < reach P s) : sr P (n + 1) s a = (upd s a, [⟨0, reach P s⟩]) := if_neg q
theorem enter_eq (P : Pr) (s : Nd) (a : Acc) : enter P s a = ⟨(upd s a.vb).1, (upd s a.vb).2, a.tree ++ [⟨0, reach P s⟩]⟩ := by
 rw [← enter_vb P s a]; rfl
theorem vis_like (P : Pr) : ∀ n, Like (vis P n) (sr P n)
 | 0 => fun s a => by
  refine ⟨fun _ => enter_eq P s a, fun q => ?_⟩
  show 4000 < (enter P s a).tree.length
  rw [enter_len]; exact q
 | n + 1 => fun s a => by
  have hl := enter_len P s a
  unfold vis
  by_cases q : (enter P s a).val < reach P s
  ·have q1 := q; rw [enter_val] at q1
   rw [if_pos q, sr_pos P n s a.vb q1]
   have h := loopF_like (vis_grows P n) (vis_like P n) P s a.tree.length us (enter P s a) (by omega)
   rw [enter_vb, hl, bump_new] at h
   refine ⟨fun k => ?_, fun k => ?_⟩
   ·rw [h.1 (by have := k; simp only [List.length_cons] at this; show _ + 1 + (kidsU (sr P n) (conts P s) (upd s a.vb)).2.length ≤ _; omega), List.append_assoc]
    rfl
   ·refine h.2 ?_
    have := k; simp only [List.length_cons] at this
    show _ < _ + 1 + (kidsU (sr P n) (conts P s) (upd s a.vb)).2.length; omega
  ·have q1 := q; rw [enter_val] at q1
   rw [if_neg q, sr_neg P n s a.vb q1]
   refine ⟨fun _ => enter_eq P s a, fun k => ?_⟩
   rw [enter_len]; exact k
def best (P : Pr) (A : List Int) : Option (Int × List Int × List Br) :=
 let r := sr P A.length (root P A) (-1, [])
 if r.2.length ≤ 4000 then some (r.1.1, r.1.2, r.2) else none
def ended (a : Acc) : Option (Int × List Int × List Br) := if 4000 < a.tree.length then none else some (a.val, a.best, a.tree)
theorem ended_like {f : Nd → Acc → Acc} {P : Pr} {A : List Int} (h : Like f (sr P A.length)) : ended (f (root P A) ⟨-1, [], []⟩) = best P A := by
 have hs := h (root P A) ⟨-1, [], []⟩
 have hz : (⟨-1, [], []⟩ : Acc).tree.length = 0 := rfl
 rw [hz, Nat.zero_add, show (⟨-1, [], []⟩ : Acc).vb = (-1, []) from rfl] at hs
 unfold ended best
 by_cases q : (sr P A.length (root P A) (-1, [])).2.length ≤ 4000
 ·rw [hs.1 q, if_pos q, List.nil_append]
  exact if_neg (by show ¬ 4000 < (sr P A.length (root P A) (-1, [])).2.length; omega)
 ·rw [if_neg q, if_pos (hs.2 (by omega))]
theorem best_vis (P : Pr) (A : List Int) : ended (vis P A.length (root P A) ⟨-1, [], []⟩) = best P A := ended_like (vis_like P A.length)
end Go.Proofs.YtcclbpcifohhkaaGreat.Cp
namespace Go.Proofs.YtcclbpcifohhkaaGreat.Cp
structure Good (P : Pr) (s : Nd) : Prop where
 pos : ∀ a ∈ s.rem, 0 ≤ a
 most : s.v ≤ P.most
def before : List Int → List Int → Bool
 | _, [] => false
 | [], _ :: _ => true
 | a :: l, b :: m => if a = b then before l m else decide (a < b)
def NoEarlier (P : Pr) (s : Nd) (c : List Int) (v : Int) : Prop := ∀ c' t', run P s c' = some t' → t'.v = v → before c' c = false
structure Told (P : Pr) (s : Nd) (a r : VB) : Prop where
 ge : a.1 ≤ r.1
 all : ∀ c t, run P s c = some t → t.v ≤ r.1
 what : r = a ∨ (a.1 < r.1 ∧ ∃ c t, run P s c = some t ∧ r = (t.v, t.c) ∧ NoEarlier P s c t.v)
structure ToldL (P : Pr) (s : Nd) (l : List Int) (a r : VB) : Prop where
 ge : a.1 ≤ r.1
 all : ∀ u ∈ l, ∀ c t, run P s (u :: c) = some t → t.v ≤ r.1
 what : r = a ∨ (a.1 < r.1 ∧ ∃ u c t, u ∈ l ∧ run P s (u :: c) = some t ∧ r = (t.v, t.c) ∧ ∀ u' ∈ l, ∀ c' t', run P s (u' :: c') = some t' → t'.v = t.v → before (u' :: c') (u :: c) = false)
end Go.Proofs.YtcclbpcifohhkaaGreat.Cp
namespace Go.Proofs.YtcclbpcifohhkaaGreat.Cp
abbrev Rd := Int × List Br × List Br
structure Sound (P : Pr) (s : Nd) (x : Rd) : Prop where
 all : ∀ c t, run P s c = some t → t.v ≤ x.1
 le : x.1 ≤ reach P s
 head : ∃ k o, x.2.1 = ⟨k, x.1⟩ :: o
end Go.Proofs.YtcclbpcifohhkaaGreat.Cp
namespace Go.Proofs.YtcclbpcifohhkaaGreat.Cp
structure Q where
 uses : Int
 left : List (ByteArray × Int)
 most : Int
 never : List (Int × Int)
def nameB (u : Int) : ByteArray :=
 if u = 0 then ⟨⟨[104, 111, 109, 101]⟩⟩ else if u = 1 then ⟨⟨[115, 104, 111, 112]⟩⟩ else if u = 2 then ⟨⟨[119, 111, 114, 107]⟩⟩ else if u = 3 then ⟨⟨[112, 97, 114, 107]⟩⟩
 else if u = 4 then ⟨⟨[112, 108, 97, 110, 116]⟩⟩ else ⟨⟨[104, 97, 108, 108]⟩⟩
def bitB (w u : Int) : Bool := decide (w / 2 ^ u.toNat % 2 = 1)
def hasP (l : List (Int × Int)) (x : Int × Int) : Bool := l.any fun y => decide (x = y)
def mayQ (q : Q) (last : Option Int) (u : Int) : Bool :=
 decide (0 ≤ u) && (decide (u < 6) && (bitB q.uses u && (match last with | none => true | some w => !hasP q.never (w, u))))
def limS (u : Int) (l : Int) (e : ByteArray × Int) : Int := if e.1 = nameB u then max (-1) (min l e.2) else l
def limQ (q : Q) (u : Int) : Int := q.left.foldl (limS u) q.most
def prQ (q : Q) : Pr := ⟨mayQ q, limQ q, q.most⟩
def badP (p : Int × Int) : Bool := decide (min p.1 p.2 < 0) || decide (6 ≤ max p.1 p.2)
def validQ (q : Q) : Bool := decide (0 ≤ q.uses) && (decide (q.uses ≤ 63) && (decide (0 ≤ q.most) && (decide (q.left.length ≤ 30) && (decide (q.never.length ≤ 36) && !q.never.any badP))))
theorem validQ_iff {q : Q} : validQ q = true ↔ 0 ≤ q.uses ∧ q.uses ≤ 63 ∧ 0 ≤ q.most ∧ q.left.length ≤ 30 ∧ q.never.length ≤ 36 ∧ q.never.any badP = false := by
 unfold validQ
 simp only [Bool.and_eq_true, decide_eq_true_eq, Bool.not_eq_true']
theorem fold_hi (u : Int) : ∀ (L : List (ByteArray × Int)) (l : Int), -1 ≤ l → L.foldl (limS u) l ≤ l ∧ -1 ≤ L.foldl (limS u) l
 | [], l, h => ⟨Int.le_refl _, h⟩
 | e :: L, l, h => by
  have hs : -1 ≤ limS u l e ∧ limS u l e ≤ l := by unfold limS; split <;> omega
  have := fold_hi u L (limS u l e) hs.1
  rw [List.foldl_cons]
  omega
end Go.Proofs.YtcclbpcifohhkaaGreat.Cp
namespace Go.Proofs.YtcclbpcifohhkaaGreat.Bm
open Go Go.RowKit
def entR : Rec (ByteArray × Int) where
 enc p := [.string p.1, .int .i64 p.2]
 m := 1
 len _ := rfl
 set _ := rfl
 bel _ _ := rfl
def pairR : Rec (Int × Int) where
 enc p := [.int .i64 p.1, .int .i64 p.2]
 m := 1
 len _ := rfl
 set _ := rfl
 bel _ _ := rfl
theorem ent_val (p : ByteArray × Int) : entR.val p = .agg ⟨[.string p.1, .int .i64 p.2]⟩ := rfl
theorem pair_val (p : Int × Int) : pairR.val p = .agg ⟨[.int .i64 p.1, .int .i64 p.2]⟩ := rfl
structure Pb where
 uses : Int
 kl : Option Bool
 left : List (ByteArray × Int)
 most : Int
 kn : Option Bool
 never : List (Int × Int)
def Pb.cells (p : Pb) : List Value := [.int .i64 p.uses, entR.o p.kl p.left, .int .i64 p.most, pairR.o p.kn p.never]
def Pb.val (p : Pb) : Value := .agg ⟨p.cells⟩
structure PbOk (p : Pb) : Prop where
 kl : Rec.Ok p.kl p.left
 kn : Rec.Ok p.kn p.never
 u : -9223372036854775808 ≤ p.uses ∧ p.uses ≤ 9223372036854775807
 m : -9223372036854775808 ≤ p.most ∧ p.most ≤ 9223372036854775807
 nl : p.left.length ≤ 40
 nn : p.never.length ≤ 40
theorem Pb.reify (p : Pb) (h : Heap) (n : Nat) : Bm.reify E.P (n + 1) h p.val = some p.val := by
 have hc : p.cells.all (settled depth) = true := by
  unfold Pb.cells depth
  simp only [List.all_cons, List.all_nil, set_int, Rec.o_set, Bool.and_self]
 show (reifyC E.P n h p.cells).map _ = _
 rw [reifyC_set hc]; rfl
theorem Pb.set (p : Pb) : settled depth p.val = true := by
 show p.cells.all (settled 7) = true
 unfold Pb.cells
 simp only [List.all_cons, List.all_nil, set_int, Rec.o_set, Bool.and_self]
theorem lit_int (h : Heap) (z : Int) : buildSliceT (some ⟨3, 1, 8, .int .i64 0, ⟨some false, some 1⟩⟩) false h 1 #[(0, .int .i64 z)] = some (lst true (intE.vals [z]), h) := Enc.lit (O := intE) z rfl rfl rfl
theorem lit_none (h : Heap) (b : Bool) : buildSliceT (some ⟨3, 1, 8, .int .i64 0, ⟨some false, some 1⟩⟩) b h 0 #[] = some (lst true [], h) := build_none'.trans rfl
theorem sI1 : szOf E.P 3 = some 1 := by kernel_rfl
theorem gI1 : aggT E.P 3 = some false := by kernel_rfl
def eqG {α : Type} [DecidableEq α] (a b : List α) : Bool := decide (a = b)
theorem eqG_cons {α : Type} [DecidableEq α] {a b : α} {x y : List α} : eqG (a :: x) (b :: y) = (decide (a = b) && eqG x y) := by
 unfold eqG; simp only [List.cons.injEq, Bool.decide_and]
theorem ints25 (k m : Option Bool) (l r : List Int) (hk : Enc.Ok k l) (hm : Enc.Ok m r) (hl : l.length ≤ 1000000) : pureCall E.P (L E) 13 [intE.o k l, intE.o m r] = some (.bool (decide (l = r))) := by
 have ll := fun h => Enc.o_len (O := intE) (h := h) hk
 have lr := fun h => Enc.o_len (O := intE) (h := h) hm
 have il := fun (i : Nat) (hi : i < l.length) => Enc.index_o (O := intE) (t := 3) (k := .i64) hk hi
 have ir := fun (i : Nat) (hi : i < r.length) => Enc.index_o (O := intE) (t := 3) (k := .i64) hm hi
 generalize intE.o k l = VL at *
 generalize intE.o m r = VR at *
 rw [pureCall_fn F13 rfl]
 by_cases hlen : l.length = r.length
 ·simp -implicitDefEqProofs [r13, p13, ll, lr, hlen]
  rw [LL_for (γ := Unit) l () (fun i _ => [(5, .int .i64 i)]) (fun _ _ => []) (fun i rest _ => if eqG rest (r.drop i) then (.exit 0, [(5, undef)], []) else (.ret, [(4, .bool false), (5, undef)], [])) (fun _ _ => True) (by omega) trivial]
  ·rw [List.drop_zero]
   by_cases q : l = r
   ·subst q
    have h : eqG l l = true := decide_eq_true rfl
    simp -implicitDefEqProofs [k13_4, h]
   ·have h : eqG l r = false := decide_eq_false q
    simp -implicitDefEqProofs [k13_4, h, q]
  ·simp -implicitDefEqProofs [k13_4]
  ·rfl
  ·intro nx i c hi _
   have hd0 : eqG [] (r.drop i) = true := by rw [List.drop_eq_nil_of_le (by omega)]; rfl
   rw [hd0]
   simp -implicitDefEqProofs [r13_4, k13_4, ll, hi, hlen, trim_le]
  ·intro nx i v rest c hi hv hd hw _ ih
   have ih := ih () trivial
   have hi' : i < r.length := by omega
   have hi2 : ((i : Int) < r.length) := by omega
   have x1 := il i hi
   have x2 := ir i hi'
   rw [hv] at x1
   have hrd : r.drop i = r[i] :: r.drop (i + 1) := List.drop_eq_getElem_cons hi'
   rw [hrd, eqG_cons]
   simp -implicitDefEqProofs [k13_4] at ih
   by_cases he : v = r[i]
   ·rw [← he] at x2
    simp -implicitDefEqProofs [r13_4, k13_4, ll, hi', hlen, x1, x2, hw, ← he, trim_le, intE]
    exact ih
   ·simp -implicitDefEqProofs [r13_4, k13_4, ll, hi', hlen, x1, x2, he, trim_le, intE]
 ·have : ¬ l = r := fun e => hlen (by rw [e])
  have hlen' : ¬ ((l.length : Int) = r.length) := by omega
  simp -implicitDefEqProofs [r13, p13, ll, lr, hlen', this]
def idxB {α : Type} (f : α → Bool) : List α → Int → Int
 | [], _ => -1
 | a :: l, i => if f a = true then i else idxB f l (i + 1)
theorem idxB_cons {α : Type} (f : α → Bool) (a : α) (l : List α) (i : Int) : idxB f (a :: l) i = if f a = true then i else idxB f l (i + 1) := rfl
theorem idxB_any {α : Type} (f : α → Bool) : ∀ (l : List α) (i : Int), 0 ≤ i → (l.any f = true → i ≤ idxB f l i) ∧ (l.any f = false → idxB f l i = -1)
 | [], _, _ => ⟨fun h => absurd h (by simp), fun _ => rfl⟩
 | a :: l, i, hi => by
  rw [idxB_cons, List.any_cons]
  have ih := idxB_any f l (i + 1) (by omega)
  by_cases h : f a = true
  ·rw [if_pos h, h]; exact ⟨fun _ => Int.le_refl _, fun q => absurd q (by simp)⟩
  ·rw [if_neg h, Bool.eq_false_iff.2 h, Bool.false_or]
   exact ⟨fun q => by have := ih.1 q; omega, ih.2⟩
theorem idxB_pos {α : Type} (f : α → Bool) (l : List α) : decide (0 ≤ idxB f l 0) = l.any f := by
 have h := idxB_any f l 0 (Int.le_refl _)
 cases q : l.any f
 ·rw [h.2 q]; rfl
 ·exact decide_eq_true (h.1 q)
theorem index_ints (k : Option Bool) (l : List Int) (z : Int) (hk : Enc.Ok k l) (hl : l.length ≤ 1000000) : pureCall E.P (L E) 27 [intE.o k l, .int .i64 z] = some (.int .i64 (idxB (fun a => decide (z = a)) l 0)) := by
 have ll := fun h => Enc.o_len (O := intE) (h := h) hk
 have il := fun (i : Nat) (hi : i < l.length) => Enc.index_o (O := intE) (t := 3) (k := .i64) hk hi
 generalize intE.o k l = VL at *
 rw [pureCall_fn F27 rfl]
 generalize hf : (fun a => decide (z = a)) = f
 simp -implicitDefEqProofs [r27, p27, ll]
 rw [LL_for (γ := Unit) l () (fun i _ => [(8, .int .i64 i)]) (fun _ _ => []) (fun i rest _ => if idxB f rest i = -1 then (.exit 0, [(8, undef)], []) else (.ret, [(4, .int .i64 (idxB f rest i)), (8, undef)], [])) (fun _ _ => True) (by omega) trivial]
 ·rw [show ((0 : Nat) : Int) = 0 from rfl]
  by_cases q : idxB f l 0 = -1
  ·simp -implicitDefEqProofs [k27_2, q]
  ·simp -implicitDefEqProofs [k27_2, q]
 ·simp -implicitDefEqProofs [k27_2]
 ·rfl
 ·intro nx i c hi _
  have e : ∀ z, idxB f [] z = -1 := fun _ => rfl
  simp -implicitDefEqProofs [r27_2, k27_2, hi, e, trim_le]
 ·intro nx i v rest c hi hv hd hw _ ih
  have ih := ih () trivial
  have hi2 : ((i : Int) < l.length) := by omega
  have x1 := il i hi
  rw [hv] at x1
  have e2 : (((i + 1 : Nat) : Int)) = (i : Int) + 1 := by omega
  rw [e2] at ih
  rw [idxB_cons]
  simp -implicitDefEqProofs [k27_2] at ih
  have ef : f v = decide (z = v) := by rw [← hf]
  rw [ef]
  by_cases he : z = v
  ·have hn : ¬ ((i : Int) = -1) := by omega
   subst he
   simp -implicitDefEqProofs [r27_2, k27_2, hi2, x1, hn, trim_le, intE]
  ·simp -implicitDefEqProofs [r27_2, k27_2, hi2, x1, he, hw, trim_le, intE]
   exact ih
open Cp (badP hasP)
theorem bad_spec (p : Int × Int) : pureCall E.P (L E) 44 [pairR.val p] = some (.bool (badP p)) := by
 have mn : ∀ a b : Int, aMinMax false [.int .i64 a, .int .i64 b] = some (.int .i64 (min a b)) := fun a b => by
  show some (Value.int .i64 (if b < a then b else a)) = _
  congr 2
  omega
 have mx : ∀ a b : Int, aMinMax true [.int .i64 a, .int .i64 b] = some (.int .i64 (max a b)) := fun a b => by
  show some (Value.int .i64 (if b > a then b else a)) = _
  congr 2
  omega
 unfold badP
 rw [pureCall_fn F44 rfl, pair_val]
 generalize p.1 = a
 generalize p.2 = b
 have i0 : ∀ t, indexAddrT (.arr 2 ⟨some false, some 1⟩) (.pointer (some ⟨0, 0, none⟩)) (.int .i64 0) = some (.pointer (some ⟨0, 0, none⟩)) ∧ indexAddrT (.arr 2 ⟨some false, some 1⟩) (.pointer (some ⟨0, 0, none⟩)) (.int t 1) = some (.pointer (some ⟨0, 1, none⟩)) := fun t => ⟨rfl, rfl⟩
 have i0a := (i0 .i64).1
 have i0b := (i0 .i64).2
 by_cases h : min a b < 0
 ·simp -implicitDefEqProofs [r44, p44, i0a, i0b, mn, h]
 ·simp -implicitDefEqProofs [r44, p44, i0a, i0b, mn, mx, h]
variable {h : Heap} {P : Program}
def cAt (b j : Nat) : Value := .pointer (some ⟨b, j, none⟩)
theorem arr_idx {len b off u : Nat} {k : IntKind} {g : Option Bool} (hu : u < len) : indexAddrT (.arr len ⟨g, some 1⟩) (.pointer (some ⟨b, off, none⟩)) (.int k (u : Int)) = some (cAt b (off + u)) := by
 show (if 0 ≤ (u : Int) ∧ (u : Int) < (len : Int) then (some 1).map fun s => Value.pointer (some (shift ⟨b, off, none⟩ ((u : Int).toNat * s))) else none) = _
 rw [if_pos ⟨by omega, by omega⟩, Int.toNat_natCast]
 simp [shift, cAt]
theorem obj_row {b : Nat} {t : TypeId} {c : List Value} (hob : h[b]? = some (.cells t c 0)) {j : Nat} : rowOf h ⟨b, j, none⟩ = some c := by
 unfold rowOf
 show (match h[b]? with | some (.cells _ c g) => _ | _ => none) = _
 rw [hob]; rfl
theorem obj_load {b j : Nat} {t : TypeId} {c : List Value} {v : Value} {sz : Option Nat} (hob : h[b]? = some (.cells t c 0)) (hc : c[j]? = some v) : loadT ⟨some false, sz⟩ h (cAt b j) = some v := by
 unfold cAt
 rw [load_one, obj_row hob, Option.bind_some, hc]
theorem obj_store {b j lo : Nat} {t : TypeId} {c : List Value} {v : Value} (hob : h[b]? = some (.cells t c 0)) (hj : j < c.length) (hlo : lo ≤ b) (hv : cellsOf v = some [v]) : storeT (some 1) h lo v (cAt b j) = some (h.set b (.cells t (c.set j v) 0)) := by
 unfold cAt
 rw [store_ptr, hv, Option.bind_some, if_pos (show 1 = [v].length from rfl)]
 unfold wrN
 show (match h[b]? with | some (.cells t c g) => _ | _ => none) = _
 rw [hob]
 show (if _ then _ else none) = _
 rw [if_pos ⟨hlo, rfl, by simp, by simp; omega⟩]
 show some (h.set b (.cells t (splice c j [v]) 0)) = _
 rw [splice_one hj]
theorem obj_all {b n : Nat} {t : TypeId} {c : List Value} (hob : h[b]? = some (.cells t c 0)) (hn : c.length = n) : loadT ⟨some true, some n⟩ h (cAt b 0) = some (.agg ⟨c⟩) := by
 unfold cAt
 rw [load_agg, obj_row hob, Option.bind_some]
 show (if 0 + n ≤ c.length then some (Value.agg ((c.drop 0).take n).toArray) else none) = _
 rw [if_pos (by omega), List.drop_zero, List.take_of_length_le (by omega)]
theorem obj_put {b n lo : Nat} {t : TypeId} {c d : List Value} (hob : h[b]? = some (.cells t c 0)) (hn : c.length = n) (hd : d.length = n) (h0 : 0 < n) (hlo : lo ≤ b) : storeT (some n) h lo (.agg ⟨d⟩) (cAt b 0) = some (h.set b (.cells t d 0)) := by
 unfold cAt
 rw [store_ptr, cellsOf_agg, Option.bind_some, if_pos hd.symm]
 unfold wrN
 show (match h[b]? with | some (.cells t c g) => _ | _ => none) = _
 rw [hob]
 show (if _ then _ else none) = _
 rw [if_pos ⟨hlo, rfl, by show 0 < d.length; omega, by show 0 + d.length ≤ c.length; omega⟩]
 show some (h.set b (.cells t (splice c 0 d) 0)) = _
 unfold splice
 rw [List.take_zero, List.nil_append, List.drop_of_length_le (by omega), List.append_nil]
theorem obj_frz {b lo : Nat} {t : TypeId} {c : List Value} (hob : h[b]? = some (.cells t c 0)) (hs : szOf P t = some c.length) (ha : aggT P t = some true) (hlo : lo ≤ b) (hc : c.all (settled 8) = true) :
  freezeV P depth lo h (cAt b 0) = some (cptr (.agg ⟨c⟩), h.set b .dead) := by
 unfold cAt
 rw [frz_ptr8 hob hs ha hlo, if_pos hc]; rfl
theorem isCp_cptr {v : Value} : isCp (cptr v) = true := rfl
theorem rop_loadC {E : Env} {C : Callee} {lo : Nat} {k : TI} {x : Operand} {ρ : Operand → Value} (hc : isCp (ρ x) = true) : ropR E C lo true (.load k x) ρ h = (loadT k h (ρ x)).map (·, h) := by
 show (if (true && !(isCp (ρ x) || isLow lo h (ρ x))) = true then none else _) = _
 rw [hc]; rfl
open Cp (Q nameB limS limQ mayQ prQ validQ badP hasP bitB)
def Pb.q (p : Pb) : Q := ⟨p.uses, p.left, p.most, p.never⟩
def stC (av : Value) (p : Pb) (L : List Int) (v : Int) : List Value := av :: (p.cells ++ (intE.vals L ++ [.int .i64 v]))
def stV (av : Value) (p : Pb) (L : List Int) (v : Int) : Value := .agg ⟨stC av p L v⟩
def stO (av : Value) (p : Pb) (L : List Int) (v : Int) : AObj := .cells 76 (stC av p L v) 0
theorem pb_len (p : Pb) : p.cells.length = 4 := rfl
theorem st_len {av : Value} {p : Pb} {L : List Int} {v : Int} (hL : L.length = 6) : (stC av p L v).length = 12 := by
 unfold stC
 simp [pb_len, Enc.vals_len, hL]
theorem st_left {av : Value} {p : Pb} {L : List Int} {v : Int} {u : Nat} (hu : u < L.length) : (stC av p L v)[5 + u]? = some (.int .i64 L[u]) := by
 unfold stC
 rw [show 5 + u = (4 + u) + 1 by omega, List.getElem?_cons_succ, List.getElem?_append_right (by rw [pb_len]; omega), pb_len, List.getElem?_append_left (by rw [Enc.vals_len]; omega), show 4 + u - 4 = u by omega]
 exact Enc.vals_get hu
theorem st_set {av : Value} {p : Pb} {L : List Int} {v z : Int} {u : Nat} (hu : u < L.length) : (stC av p L v).set (5 + u) (.int .i64 z) = stC av p (L.set u z) v := by
 unfold stC
 rw [show 5 + u = (4 + u) + 1 by omega, List.set_cons_succ, List.set_append_right _ _ (by rw [pb_len]; omega), pb_len, show 4 + u - 4 = u by omega, List.set_append_left _ _ (by rw [Enc.vals_len]; omega)]
 rw [show Value.int .i64 z = intE.e z from rfl, Enc.vals_put]
theorem pb_all (p : Pb) : p.cells.all (settled 8) = true := by
 unfold Pb.cells
 simp only [List.all_cons, List.all_nil, set_int, Rec.o_set, Bool.and_self]
theorem st_all {av : Value} {p : Pb} {L : List Int} {v : Int} (ha : settled 8 av = true) : (stC av p L v).all (settled 8) = true := by
 unfold stC
 rw [List.all_cons, ha, List.all_append, pb_all, List.all_append, Enc.vals_set]; rfl
theorem pb_bel (p : Pb) (d n : Nat) : p.cells.all (below (d + 1) n) = true := by
 unfold Pb.cells
 simp only [List.all_cons, List.all_nil, bel_int, Rec.o_bel, Bool.and_self]
theorem ints_bel (L : List Int) (d n : Nat) : (intE.vals L).all (below (d + 1) n) = true := by
 rw [List.all_eq_true]
 intro v hv
 obtain ⟨a, _, rfl⟩ := List.mem_map.1 hv
 rfl
theorem st_bel {av : Value} {p : Pb} {L : List Int} {v : Int} {d n : Nat} (ha : below (d + 1) n av = true) : (stC av p L v).all (below (d + 1) n) = true := by
 have e := ints_bel L d n
 unfold stC
 rw [List.all_cons, ha, List.all_append, pb_bel, List.all_append, e]; rfl
theorem cat_bel {b j d n : Nat} : below (d + 1) n (cAt b j) = decide (b < n) := rfl
def limN (q : Q) (n : Nat) : List Int := (List.range 6).map fun i => if i < n then limQ q i else 0
theorem limN_len (q : Q) (n : Nat) : (limN q n).length = 6 := by simp [limN]
theorem limN_get (q : Q) (n i : Nat) (hi : i < (limN q n).length) : (limN q n)[i] = if i < n then limQ q i else 0 := by simp [limN]
theorem limN_set (q : Q) (n : Nat) (l : Int) (h : l = limQ q n) : (limN q n).set n l = limN q (n + 1) := by
 apply List.ext_getElem
 ·simp [limN]
 ·intro i h1 h2
  rw [List.getElem_set, limN_get]
  by_cases e : n = i
  ·subst e; rw [if_pos rfl, limN_get, if_pos (by omega), h]
  ·rw [if_neg e, limN_get]
   by_cases q : i < n
   ·rw [if_pos q, if_pos (by omega)]
   ·rw [if_neg q, if_neg (by omega)]
def limL (q : Q) : List Int := limN q 6
def zSt : List Value := [.slice none 0 0, .int .i64 0, .slice none 0 0, .int .i64 0, .slice none 0 0, .int .i64 0, .int .i64 0, .int .i64 0, .int .i64 0, .int .i64 0, .int .i64 0, .int .i64 0]
def namesV : List Value := [.string ⟨⟨[104, 111, 109, 101]⟩⟩, .string ⟨⟨[115, 104, 111, 112]⟩⟩, .string ⟨⟨[119, 111, 114, 107]⟩⟩, .string ⟨⟨[112, 97, 114, 107]⟩⟩, .string ⟨⟨[112, 108, 97, 110, 116]⟩⟩, .string ⟨⟨[104, 97, 108, 108]⟩⟩]
theorem names_build : buildT (.arr ⟨[Value.string ⟨⟨[]⟩⟩, Value.string ⟨⟨[]⟩⟩, Value.string ⟨⟨[]⟩⟩, Value.string ⟨⟨[]⟩⟩, Value.string ⟨⟨[]⟩⟩, Value.string ⟨⟨[]⟩⟩]⟩ 1) #[(0, .string ⟨⟨[104, 111, 109, 101]⟩⟩), (1, .string ⟨⟨[115, 104, 111, 112]⟩⟩), (2, .string ⟨⟨[119, 111, 114, 107]⟩⟩), (3, .string ⟨⟨[112, 97, 114, 107]⟩⟩), (4, .string ⟨⟨[112, 108, 97, 110, 116]⟩⟩), (5, .string ⟨⟨[104, 97, 108, 108]⟩⟩)] = some (.agg ⟨namesV⟩) := rfl
theorem names_index (u : Nat) (hu : u < 6) : indexT (.arr 6 ⟨some false, some 1⟩) (.agg ⟨namesV⟩) (.int .i64 (u : Int)) = some (.string (nameB u)) := by
 have : u = 0 ∨ u = 1 ∨ u = 2 ∨ u = 3 ∨ u = 4 ∨ u = 5 := by omega
 rcases this with rfl | rfl | rfl | rfl | rfl | rfl <;> rfl
theorem st_build (ka : Option Bool) (A : List Int) (a b d e : Value) : buildT (.fs ⟨zSt⟩ ⟨[(0, 1), (1, 4), (5, 6), (11, 1)]⟩) #[(0, intE.o ka A), (1, .agg ⟨[a, b, d, e]⟩)] = some (.agg ⟨intE.o ka A :: ([a, b, d, e] ++ [.int .i64 0, .int .i64 0, .int .i64 0, .int .i64 0, .int .i64 0, .int .i64 0, .int .i64 0])⟩) := by
 cases ka with
 | none => rfl
 | some x => cases x <;> rfl
end Go.Proofs.YtcclbpcifohhkaaGreat.Bm
