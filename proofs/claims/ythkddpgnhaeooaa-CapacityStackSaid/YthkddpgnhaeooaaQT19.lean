/-
 Chapter 25: problems as data, and the small functions on lists and problems, walked. Conditions: lists that are not too long.
-/
import Derived.Test.YthkddpgnhaeooaaQT16
import Derived.Test.YthkddpgnhaeooaaQT17
import Derived.Test.YthkddpgnhaeooaaQT01
import Derived.Test.YthkddpgnhaeooaaQT18
namespace Go.Proofs.Ythkddpgnhaeooaa.Bm
open Go Go.RowKit
structure Enc (α : Type) where
 e : α → Value
 one : ∀ a, one (e a) = true
 set : ∀ a n, settled (n + 1) (e a) = true
 bel : ∀ a d n, below (d + 1) n (e a) = true
 fits : ∀ a sz, fitsTT ⟨some false, sz⟩ (e a) = true
namespace Enc
variable {α : Type} {O : Enc α} {h : Heap} {l m : List α} {P : Program}
def vals (O : Enc α) (l : List α) : List Value := l.map O.e
def o (O : Enc α) (k : Option Bool) (l : List α) : Value := match k with | none => .slice none 0 0 | some b => lst b (O.vals l)
def Ok (k : Option Bool) (l : List α) : Prop := k = none → l = []
theorem ok_some {b : Bool} : Ok (some b) l := fun h => by cases h
theorem ok_nil {k : Option Bool} : Ok k ([] : List α) := fun _ => rfl
def row (O : Enc α) (t : TypeId) (l : List α) : AObj := .cells t (O.vals l) 1
def part (b n : Nat) (l : List α) : Value := .slice (some ⟨b, 0, some l.length⟩) n l.length
def sl (b : Nat) (l : List α) : Value := .slice (some ⟨b, 0, some l.length⟩) l.length l.length
def at_ (b : Nat) (l : List α) (i : Nat) : Value := .pointer (some ⟨b, i, some l.length⟩)
theorem vals_len : (O.vals l).length = l.length := List.length_map _
theorem vals_app : O.vals (l ++ m) = O.vals l ++ O.vals m := List.map_append
theorem e_cells (a : α) : cellsL (O.e a) = [O.e a] := by
 have := O.one a
 unfold cellsL
 split
 ·rename_i h; rw [h] at this; cases this
 ·rfl
theorem vals_all (l : List α) : (O.vals l).all (fun v => (cellsL v).length == 1) = true := by
 rw [List.all_eq_true]
 intro v hv
 obtain ⟨a, _, rfl⟩ := List.mem_map.1 hv
 rw [e_cells]; rfl
theorem vals_set (l : List α) : (O.vals l).all (settled 8) = true := by
 rw [List.all_eq_true]
 intro v hv
 obtain ⟨a, _, rfl⟩ := List.mem_map.1 hv
 exact O.set a 7
theorem vals_flat : ∀ l : List α, (O.vals l).flatMap cellsL = O.vals l
 | [] => rfl
 | a :: l => by
  show cellsL (O.e a) ++ (O.vals l).flatMap cellsL = O.e a :: O.vals l
  rw [e_cells, vals_flat l]; rfl
theorem vals_get {i : Nat} (hi : i < l.length) : (O.vals l)[i]? = some (O.e l[i]) := by
 unfold vals; rw [List.getElem?_map, List.getElem?_eq_getElem hi]; rfl
theorem vals_take (n : Nat) : (O.vals l).take n = O.vals (l.take n) := by unfold vals; rw [List.map_take]
theorem vals_drop (n : Nat) : (O.vals l).drop n = O.vals (l.drop n) := by unfold vals; rw [List.map_drop]
theorem vals_put {i : Nat} {a : α} : (O.vals l).set i (O.e a) = O.vals (l.set i a) := by unfold vals; rw [List.map_set]
theorem o_len {k : Option Bool} (hk : Ok k l) : lenT .sl h (O.o k l) = some (.int .i64 l.length) := by
 cases k with
 | none => rw [hk rfl]; rfl
 | some b => show lenT .sl h (lst b (O.vals l)) = _; rw [len_lst, vals_len]
theorem o_one {k : Option Bool} : Bm.one (O.o k l) = true := by cases k <;> rfl
theorem o_set {k : Option Bool} {n : Nat} : settled (n + 1) (O.o k l) = true := by cases k <;> rfl
theorem o_bel {k : Option Bool} {d n : Nat} : below (d + 1) n (O.o k l) = true := by cases k <;> rfl
theorem o_fits {k : Option Bool} {sz : Option Nat} : fitsTT ⟨some false, sz⟩ (O.o k l) = true := by cases k <;> rfl
theorem o_reify {k : Option Bool} {n : Nat} : reify P (n + 1) h (O.o k l) = some (O.o k l) := by cases k <;> rfl
theorem o_reifyR {k : Option Bool} : reifyR P h (O.o k l) = some (O.o k l) := by cases k <;> rfl
theorem o_cellsOf {k : Option Bool} : cellsOf (O.o k l) = some [O.o k l] := by cases k <;> rfl
theorem o_frz {k : Option Bool} {lo : Nat} : freezeV P depth lo h (O.o k l) = some (O.o k l, h) := by cases k <;> rfl
theorem cells_tree {x : Bool} : sliceCells h 1 (lst x (O.vals l)) = some (O.vals l, l.length) := by
 rw [cells_lst (vals_all l), vals_flat, vals_len]
theorem index_tree {x : Bool} {t : TypeId} {i : Nat} {k : IntKind} (hi : i < l.length) : indexAddrT (.sl t ⟨some false, some 1⟩) (lst x (O.vals l)) (.int k (i : Int)) = some (cptr (O.e l[i])) := by
 rw [index_lst, if_pos (by omega), Int.toNat_natCast, vals_get hi, Option.bind_some, O.fits, e_cells]; rfl
theorem index_o {x : Option Bool} {t : TypeId} {i : Nat} {k : IntKind} (hx : Ok x l) (hi : i < l.length) : indexAddrT (.sl t ⟨some false, some 1⟩) (O.o x l) (.int k (i : Int)) = some (cptr (O.e l[i])) := by
 cases x with
 | none => rw [hx rfl] at hi; exact absurd hi (Nat.not_lt_zero i)
 | some b => exact index_tree hi
theorem load_e (a : α) {sz : Option Nat} : loadT ⟨some false, sz⟩ h (cptr (O.e a)) = some (O.e a) := by rw [load_cptr, O.fits, if_pos rfl]
theorem drop_tree {x : Bool} {t : TypeId} {g : Option Bool} {n : Nat} {z : Int} {k : IntKind} (hz : z = (n : Nat)) (hn : n ≤ l.length) : sliceT (.sl t ⟨g, some 1⟩) h (lst x (O.vals l)) (some (.int k z)) none none = some (lst x (O.vals (l.drop n))) := by
 rw [slice_drop (vals_all l) hz (by rw [vals_len]; exact hn), vals_drop]
theorem row_bel {n : Nat} {t : TypeId} : belowO n (O.row t l) = true := by
 show (O.vals l).all (below 8 n) = true
 rw [List.all_eq_true]
 intro v hv
 obtain ⟨a, _, rfl⟩ := List.mem_map.1 hv
 exact O.bel a 7 n
theorem sl_bel {n d b : Nat} (hb : b < n) : below (d + 1) n (sl b l) = true := decide_eq_true hb
theorem part_len {b n : Nat} : lenT .sl h (part b n l) = some (.int .i64 n) := rfl
theorem sl_len {b : Nat} : lenT .sl h (sl b l) = some (.int .i64 l.length) := rfl
theorem part_index {b n i : Nat} {t : TypeId} {g : Option Bool} {k : IntKind} (hi : i < n) : indexAddrT (.sl t ⟨g, some 1⟩) (part b n l) (.int k (i : Int)) = some (at_ b l i) := by
 unfold part
 rw [index_slice, if_pos ⟨by omega, by omega⟩]
 show some (Value.pointer (some ⟨b, 0 + (i : Int).toNat * 1, some l.length⟩)) = _
 rw [Int.toNat_natCast, Nat.mul_one, Nat.zero_add]; rfl
theorem row_of {b n : Nat} {t : TypeId} (hob : h[b]? = some (O.row t l)) (hn : n = l.length) {off : Nat} : rowOf h ⟨b, off, some n⟩ = some (O.vals l) := by
 subst hn
 unfold rowOf
 show (match h[b]? with | some (.cells _ c g) => _ | _ => none) = _
 rw [hob]
 show (if stampOk _ 1 (O.vals l).length = true then some (O.vals l) else none) = _
 rw [if_pos (by unfold stampOk; rw [vals_len]; simp)]
theorem fits_row {b n : Nat} {t : TypeId} (hob : h[b]? = some (O.row t l)) (hn : n = l.length) {off : Nat} : fitsRow h ⟨b, off, some n⟩ 1 = true := by
 subst hn
 unfold fitsRow
 show (match h[b]? with | some (.cells _ c g) => _ | _ => false) = true
 rw [hob]
 show (stampOk _ 1 (O.vals l).length && _) = true
 unfold stampOk; rw [vals_len]; simp
theorem load_at {b i : Nat} {t : TypeId} {sz : Option Nat} (hob : h[b]? = some (O.row t l)) (hi : i < l.length) : loadT ⟨some false, sz⟩ h (at_ b l i) = some (O.e l[i]) := by
 unfold at_
 rw [load_one, row_of hob rfl, Option.bind_some]
 exact vals_get hi
theorem cells_part {b n : Nat} {t : TypeId} (hob : h[b]? = some (O.row t l)) (hn : n ≤ l.length) : sliceCells h 1 (part b n l) = some (O.vals (l.take n), (l.take n).length) := by
 unfold part
 have e : (l.take n).length = n := by rw [List.length_take]; omega
 rw [cells_slice, e]
 by_cases h0 : n = 0
 ·subst h0; rw [if_pos rfl]; rfl
 ·rw [if_neg h0]
  show rowS _ _ _ h[b]? = _
  rw [hob]
  show rowS _ _ _ (some (.cells t (O.vals l) 1)) = _
  rw [rowS_cells, if_pos ⟨by unfold stampOk; rw [vals_len]; simp, .inr rfl, by rw [vals_len]; simp; omega⟩, List.drop_zero, Nat.mul_one, vals_take]
theorem reify_part {b n d : Nat} {t : TypeId} (hob : h[b]? = some (O.row t l)) (hn : n ≤ l.length) (hs : szOf P t = some 1) (ha : aggT P t = some false) : reify P (d + 1) h (part b n l) = some (lst false (O.vals (l.take n))) := by
 unfold part
 rw [reify_slice]
 by_cases h0 : n = 0
 ·subst h0; rfl
 ·rw [if_neg h0]
  show reifyS P d h h[b]? _ _ = _
  rw [hob]
  show reifyS P d h (some (.cells t (O.vals l) 1)) _ _ = _
  rw [reifyS_cells, hs, Option.bind_some, if_pos ⟨by unfold stampOk; rw [vals_len]; simp, Nat.one_pos, by rw [vals_len]; simp; omega⟩, List.drop_zero, Nat.mul_one, vals_take,
   reifyC_set (vals_set _), Option.bind_some, elems_one ha hs]; rfl
theorem reify_sl {b d : Nat} {t : TypeId} (hob : h[b]? = some (O.row t l)) (hs : szOf P t = some 1) (ha : aggT P t = some false) : reify P (d + 1) h (sl b l) = some (lst false (O.vals l)) := by
 have := reify_part (P := P) (d := d) hob (Nat.le_refl l.length) hs ha
 rw [List.take_length] at this
 exact this
theorem reifyR_part {b n : Nat} {t : TypeId} (hob : h[b]? = some (O.row t l)) (hn : n ≤ l.length) (hs : szOf P t = some 1) (ha : aggT P t = some false) : reifyR P h (part b n l) = some (lst false (O.vals (l.take n))) := reify_part hob hn hs ha
theorem frz_part {b n lo : Nat} {t : TypeId} (hob : h[b]? = some (O.row t l)) (hn : n ≤ l.length) (hs : szOf P t = some 1) (ha : aggT P t = some false) (hlo : lo ≤ b) :
  freezeV P depth lo h (part b n l) = some (lst false (O.vals (l.take n)), if n = 0 then h else h.set b .dead) := by
 have e : ((O.vals l).drop 0).take (n * 1) = O.vals (l.take n) := by rw [List.drop_zero, Nat.mul_one, vals_take]
 exact frz_row1 (a := ⟨b, 0, some l.length⟩) (t := t) (c := O.vals l) (g := 1) hob hs hlo (by unfold stampOk; rw [vals_len]; simp) Nat.one_pos (by rw [vals_len]; simp; omega) (by rw [e]; exact vals_set _)
  (by rw [e]; exact elems_one ha hs) (by rw [vals_len, List.length_take]; omega)
theorem frz_sl {b lo : Nat} {t : TypeId} (hob : h[b]? = some (O.row t l)) (hs : szOf P t = some 1) (ha : aggT P t = some false) (hlo : lo ≤ b) :
  freezeV P depth lo h (sl b l) = some (lst false (O.vals l), if l.length = 0 then h else h.set b .dead) := by
 have := frz_part (P := P) (lo := lo) hob (Nat.le_refl l.length) hs ha hlo
 rw [List.take_length] at this
 exact this
theorem part_take {b n m : Nat} {t : TypeId} {g : Option Bool} {e : TypeId} {k : IntKind} (hob : h[b]? = some (O.row t l)) (hm : m ≤ l.length) : sliceT (.sl e ⟨g, some 1⟩) h (part b n l) none (some (.int k (m : Int))) none = some (part b m l) := by
 have hf := fits_row hob rfl (off := 0)
 unfold part
 show (some 1).bind (fun s => if fitsRow h ⟨b, 0, some l.length⟩ s then _ else none) = _
 rw [Option.bind_some, if_pos hf]
 show (bound none l.length l.length).bind (fun mm => (bound (some (.int k (m : Int))) mm n).bind fun u => (bound none u 0).map fun l' => rowSl false ⟨b, 0, some l.length⟩ 1 mm u l') = _
 rw [bound_no, Option.bind_some, bound_nat hm, Option.bind_some, bound_no]
 show some (rowSl false ⟨b, 0, some l.length⟩ 1 l.length m 0) = _
 unfold rowSl
 rw [if_neg (by simp)]
 simp [shift]
theorem app {el : El} {lo b : Nat} {t : TypeId} {u : Value} (hel : el.size = 1) (hob : h[b]? = some (O.row t l)) (hu : sliceCells h 1 u = some (O.vals m, m.length)) (hlo : lo ≤ b) (hb : (l.length + m.length) * el.bytes ≤ 2 ^ 47) :
  appendT (some el) h lo false (sl b l) u = some (sl b (l ++ m), h.set b (O.row t (l ++ m))) := by
 have hob' : h[b]? = some (.cells t (O.vals l) 1) := hob
 unfold sl
 rw [append_slice, hel, hu]
 show appS el h lo false _ _ _ h[b]? _ = _
 by_cases hm : m.length = 0
 ·have : m = [] := List.eq_nil_of_length_eq_zero hm
  subst this
  have hf : fitsRow h ⟨b, 0, some l.length⟩ el.size = true := by rw [hel]; exact fits_row hob rfl
  unfold appS
  simp only [List.append_nil, List.length_nil, Nat.add_zero, Nat.le_refl, if_true, hf, Option.bind_some]
  congr 2
  refine (List.ext_getElem? fun i => ?_)
  rw [List.getElem?_set]
  split
  ·rename_i e; subst e
   split
   ·exact hob
   ·rename_i hlt; rw [List.getElem?_eq_none (by omega)]
  ·rfl
 ·rw [hob']
  refine (appS_grown (m := m.length) hm vals_len.symm rfl hel (by rw [vals_len]; omega) hlo hb).trans ?_
  unfold row
  rw [vals_app, List.length_append, vals_len, vals_len, List.length_append]
theorem app_room {el : El} {lo b i : Nat} {t : TypeId} {u : Value} (hel : el.size = 1) (hob : h[b]? = some (O.row t l)) (hu : sliceCells h 1 u = some (O.vals m, m.length)) (hm : m ≠ []) (hlo : lo ≤ b) (hi : i + m.length ≤ l.length) :
  appendT (some el) h lo false (part b i l) u = some (part b (i + m.length) (l.take i ++ m ++ l.drop (i + m.length)), h.set b (O.row t (l.take i ++ m ++ l.drop (i + m.length)))) := by
 have hob' : h[b]? = some (.cells t (O.vals l) 1) := hob
 have hm0 : m.length ≠ 0 := fun e => hm (List.eq_nil_of_length_eq_zero e)
 have hf : fitsRow h ⟨b, 0, some l.length⟩ el.size = true := by rw [hel]; exact fits_row hob rfl
 have hlen : (l.take i ++ m ++ l.drop (i + m.length)).length = l.length := by simp; omega
 unfold part
 rw [append_slice, hel, hu]
 show appS el h lo false _ _ _ h[b]? _ = _
 unfold appS
 simp only [Option.bind_some]
 rw [if_pos hi, if_neg hm0, hf]
 simp only [Bool.not_true, Bool.or_false, Bool.false_eq_true, if_false]
 unfold wrN
 show Option.map _ (match h[b]? with | some (.cells t c g) => _ | _ => none) = _
 rw [hob']
 show Option.map _ (if _ then _ else none) = _
 rw [if_pos ⟨hlo, by unfold shift stampOk; rw [vals_len]; simp, by rw [vals_len]; omega, by unfold shift; rw [vals_len, vals_len, hel]; simp; omega⟩]
 show some (_, h.set b (.cells t (splice (O.vals l) (0 + i * el.size) (O.vals m)) 1)) = _
 have e : splice (O.vals l) (0 + i * el.size) (O.vals m) = O.vals (l.take i ++ m ++ l.drop (i + m.length)) := by
  unfold splice
  rw [hel, Nat.zero_add, Nat.mul_one, vals_len, vals_take, vals_drop, vals_app, vals_app]
 rw [e, hlen]; rfl
theorem app_nil {el : El} {lo : Nat} {st : Bool} {u : Value} (hel : el.size = 1) (hu : sliceCells h 1 u = some (O.vals m, m.length)) (hm : m ≠ []) (hb : m.length * el.bytes ≤ 2 ^ 47) :
  appendT (some el) h lo st (.slice none 0 0) u = some (sl h.length m, h ++ [O.row el.e m]) := by
 have hm0 : m.length ≠ 0 := fun e => hm (List.eq_nil_of_length_eq_zero e)
 rw [append_nil, hel, hu]
 simp only [Option.bind_some]
 rw [if_neg hm0, if_pos hb, vals_len]; rfl
theorem app_tree {el : El} {lo : Nat} {st : Bool} {u : Value} (hel : el.size = 1) (hu : sliceCells h 1 u = some (O.vals m, m.length)) (hm : m ≠ []) (hb : (l.length + m.length) * el.bytes ≤ 2 ^ 47) :
  appendT (some el) h lo st (lst true (O.vals l)) u = some (sl h.length (l ++ m), h ++ [O.row el.e (l ++ m)]) := by
 have hm0 : m.length ≠ 0 := fun e => hm (List.eq_nil_of_length_eq_zero e)
 rw [append_lst, hel, hu]
 simp only [Option.bind_some]
 rw [if_neg hm0, if_pos ⟨vals_all l, by rw [vals_len]; exact hb⟩, vals_len, vals_flat, ← vals_app, vals_len]
 unfold sl
 rw [List.length_append]
 rfl
theorem app_none {el : El} {lo : Nat} {st : Bool} {u : Value} (hel : el.size = 1) (hu : sliceCells h 1 u = some (O.vals ([] : List α), 0)) : appendT (some el) h lo st (lst true []) u = some (lst true [], h) := by
 rw [append_lst, hel, hu]; rfl
theorem lit {el : El} (a : α) (hel : el.size = 1) (hz : el.z.cells.size = 1) (hk : el.k = ⟨some false, some 1⟩) : buildSliceT (some el) false h 1 #[(0, O.e a)] = some (lst true (O.vals [a]), h) := by
 rw [build_one' (O.one a) hel hz, if_neg (by simp), if_pos (O.set a 7), hk]; rfl
end Enc
def intE : Enc Int := ⟨.int .i64, fun _ => rfl, fun _ _ => rfl, fun _ _ _ => rfl, fun _ _ => rfl⟩
namespace Rec
variable {α : Type} {R : Rec α}
def o (R : Rec α) (k : Option Bool) (l : List α) : Value := match k with | none => .slice none 0 0 | some b => lst b (R.vals l)
def Ok (k : Option Bool) (l : List α) : Prop := k = none → l = []
theorem ok_some {b : Bool} {l : List α} : Ok (some b) l := fun h => by cases h
theorem ok_nil {k : Option Bool} : Ok k ([] : List α) := fun _ => rfl
section
variable {k : Option Bool} {l : List α} {h : Heap}
theorem o_len (hk : Ok k l) : lenT .sl h (R.o k l) = some (.int .i64 l.length) := by
 cases k with
 | none => have := hk rfl; subst this; rfl
 | some b => exact tree_len
theorem o_one : one (R.o k l) = true := by cases k <;> rfl
theorem o_set {n : Nat} : settled (n + 1) (R.o k l) = true := by cases k <;> rfl
theorem o_bel {d n : Nat} : below (d + 1) n (R.o k l) = true := by cases k <;> rfl
theorem o_fits {sz : Option Nat} : fitsTT ⟨some false, sz⟩ (R.o k l) = true := by cases k <;> rfl
theorem o_reify {P : Program} {n : Nat} : reify P (n + 1) h (R.o k l) = some (R.o k l) := by cases k <;> rfl
theorem o_reifyR {P : Program} : reifyR P h (R.o k l) = some (R.o k l) := by cases k <;> rfl
theorem o_cells1 : cellsL (R.o k l) = [R.o k l] := by cases k <;> rfl
theorem o_cellsOf : cellsOf (R.o k l) = some [R.o k l] := by cases k <;> rfl
theorem o_cells {s : Nat} (hs : s = R.m + 1) (hk : Ok k l) : sliceCells h s (R.o k l) = some (R.flat l, l.length) := by
 cases k with
 | none => have := hk rfl; subst this; rfl
 | some b => exact cells_tree hs l
theorem o_index {s i : Nat} {t : TypeId} {kk : IntKind} (hs : s = R.m + 1) (hk : Ok k l) (h1 : i < l.length) : indexAddrT (.sl t ⟨some true, some s⟩) (R.o k l) (.int kk (i : Int)) = some (cptr (R.val l[i])) := by
 cases k with
 | none => have := hk rfl; subst this; simp at h1
 | some b => exact index_tree hs h1
end
theorem app_fill {el : El} {h : Heap} {lo b n r : Nat} {t : TypeId} {acc m : List α} {z : α} {u : Value} (hel : el.size = R.m + 1) (hob : h[b]? = some (R.row t (acc ++ List.replicate r z))) (hn : n = acc.length + r)
  (hu : sliceCells h el.size u = some (R.flat m, m.length)) (hlo : lo ≤ b) (hm : m.length ≤ r) :
  appendT (some el) h lo false (.slice (some ⟨b, 0, some (n * (R.m + 1))⟩) acc.length n) u = some (.slice (some ⟨b, 0, some (n * (R.m + 1))⟩) (acc ++ m).length n, h.set b (R.row t ((acc ++ m) ++ List.replicate (r - m.length) z))) := by
 have hl : (acc ++ List.replicate r z).length = n := by rw [List.length_append, List.length_replicate, hn]
 have key := app_room (i := acc.length) hel hob hu hlo (by rw [hl, hn]; omega)
 rw [hl] at key
 rw [key]
 have e1 : (acc ++ List.replicate r z).take acc.length = acc := by simp
 have e2 : (acc ++ List.replicate r z).drop (acc.length + m.length) = List.replicate (r - m.length) z := by
  rw [List.drop_append, List.drop_of_length_le (by omega)]; simp
 rw [e1, e2, List.length_append]
theorem slice_none {ix : TypeId} {g : TI} {s : Nat} {h : Heap} {k : IntKind} (hs : g.sz = some s) : sliceT (.sl ix g) h (.slice none 0 0) none (some (.int k 0)) none = some (.slice none 0 0) := by
 unfold sliceT
 simp [hs, bound]
theorem slice_row0 {e t : TypeId} {g : Option Bool} {h : Heap} {b n s : Nat} {l : List α} {k : IntKind} (hs : s = R.m + 1) (hob : h[b]? = some (R.row t l)) (hn : n = l.length) :
  sliceT (.sl e ⟨g, some s⟩) h (.slice (some ⟨b, 0, some (n * (R.m + 1))⟩) n n) none (some (.int k 0)) none = some (.slice (some ⟨b, 0, some (n * (R.m + 1))⟩) 0 n) := by
 subst hs; subst hn
 have hob' : h[b]? = some (.cells t (R.flat l) (R.m + 1)) := hob
 have hf : fitsRow h ⟨b, 0, some (l.length * (R.m + 1))⟩ (R.m + 1) = true := by
  unfold fitsRow
  show (match h[b]? with | some (.cells _ c g) => _ | _ => false) = true
  rw [hob']
  simp [stampOk, flat_len]
 unfold sliceT
 simp [hf, bound, rowSl, shift]
end Rec
end Go.Proofs.Ythkddpgnhaeooaa.Bm
namespace Go.Proofs.Ythkddpgnhaeooaa.Cp
structure Br where
 kids : Int
 bound : Int
deriving DecidableEq
structure Pr where
 may : Option Int → Int → Bool
 lim : Int → Int
 most : Int
structure Nd where
 c : List Int
 v : Int
 rem : List Int
 left : Int → Int
def us : List Int := [0, 1, 2, 3, 4, 5]
def take (s : Nd) (u a : Int) (r : List Int) : Nd := ⟨s.c ++ [u], s.v + a, r, fun w => if w = u then s.left u - a else s.left w⟩
def next (P : Pr) (s : Nd) (u : Int) : Option Nd :=
 match s.rem with
 | [] => none
 | a :: r => if P.may s.c.getLast? u = true ∧ 0 ≤ s.left u - a ∧ s.v + a ≤ P.most then some (take s u a r) else none
def root (P : Pr) (A : List Int) : Nd := ⟨[], 0, A, P.lim⟩
def run (P : Pr) : Nd → List Int → Option Nd
 | s, [] => some s
 | s, u :: c => match next P s u with | none => none | some t => run P t c
def fits (P : Pr) (A c : List Int) : Bool := (run P (root P A) c).isSome
def reach (P : Pr) (s : Nd) : Int := min (s.v + s.rem.sum) P.most
def conts (P : Pr) (s : Nd) : List Nd := us.filterMap (next P s)
structure Acc where
 val : Int
 best : List Int
 tree : List Br
def bump (b : Br) : Br := ⟨b.kids + 1, b.bound⟩
def enter (P : Pr) (s : Nd) (a : Acc) : Acc := ⟨if a.val < s.v then s.v else a.val, if a.val < s.v then s.c else a.best, a.tree ++ [⟨0, reach P s⟩]⟩
def loopF (f : Nd → Acc → Acc) (P : Pr) (s : Nd) (i : Nat) : List Int → Acc → Acc
 | [], a => a
 | u :: l, a => if a.tree.length ≤ 4000 then
   (match next P s u with
   | none => loopF f P s i l a
   | some t => loopF f P s i l (f t ⟨a.val, a.best, a.tree.modify i bump⟩))
  else a
def vis (P : Pr) : Nat → Nd → Acc → Acc
 | 0, s, a => enter P s a
 | n + 1, s, a => if (enter P s a).val < reach P s then loopF (vis P n) P s a.tree.length us (enter P s a) else enter P s a
abbrev VB := Int × List Int
def upd (s : Nd) (a : VB) : VB := if a.1 < s.v then (s.v, s.c) else a
def kidsU (f : Nd → VB → VB × List Br) : List Nd → VB → VB × List Br
 | [], a => (a, [])
 | t :: ts, a => ((kidsU f ts (f t a).1).1, (f t a).2 ++ (kidsU f ts (f t a).1).2)
def sr (P : Pr) : Nat → Nd → VB → VB × List Br
 | 0, s, a => (upd s a, [⟨0, reach P s⟩])
 | n + 1, s, a => if (upd s a).1 < reach P s then ((kidsU (sr P n) (conts P s) (upd s a)).1, ⟨(conts P s).length, reach P s⟩ :: (kidsU (sr P n) (conts P s) (upd s a)).2)
  else (upd s a, [⟨0, reach P s⟩])
def Acc.vb (a : Acc) : VB := (a.val, a.best)
theorem enter_vb (P : Pr) (s : Nd) (a : Acc) : (enter P s a).vb = upd s a.vb := by
 unfold enter Acc.vb upd
 by_cases h : a.val < s.v
 ·rw [if_pos h, if_pos h, if_pos h]
 ·rw [if_neg h, if_neg h, if_neg h]
theorem enter_val (P : Pr) (s : Nd) (a : Acc) : (enter P s a).val = (upd s a.vb).1 := congrArg Prod.fst (enter_vb P s a)
theorem enter_tree (P : Pr) (s : Nd) (a : Acc) : (enter P s a).tree = a.tree ++ [⟨0, reach P s⟩] := rfl
def Like (f : Nd → Acc → Acc) (g : Nd → VB → VB × List Br) : Prop :=
 ∀ s a, (a.tree.length + (g s a.vb).2.length ≤ 4000 → f s a = ⟨(g s a.vb).1.1, (g s a.vb).1.2, a.tree ++ (g s a.vb).2⟩)
  ∧ (4000 < a.tree.length + (g s a.vb).2.length → 4000 < (f s a).tree.length)
def Grows (f : Nd → Acc → Acc) : Prop := ∀ s a, a.tree.length ≤ (f s a).tree.length
theorem modify_len (t : List Br) (i : Nat) (f : Br → Br) : (t.modify i f).length = t.length := List.length_modify ..
theorem loopF_grows {f : Nd → Acc → Acc} (hf : Grows f) (P : Pr) (s : Nd) (i : Nat) : ∀ (l : List Int) (a : Acc), a.tree.length ≤ (loopF f P s i l a).tree.length
 | [], a => Nat.le_refl _
 | u :: l, a => by
  unfold loopF
  by_cases h : a.tree.length ≤ 4000
  ·rw [if_pos h]
   cases next P s u with
   | none => exact loopF_grows hf P s i l a
   | some t =>
    have h1 := hf t ⟨a.val, a.best, a.tree.modify i bump⟩
    rw [modify_len] at h1
    exact Nat.le_trans h1 (loopF_grows hf P s i l _)
  ·rw [if_neg h]; exact Nat.le_refl _
theorem enter_len (P : Pr) (s : Nd) (a : Acc) : (enter P s a).tree.length = a.tree.length + 1 := by rw [enter_tree, List.length_append]; rfl
theorem vis_grows (P : Pr) : ∀ n, Grows (vis P n)
 | 0 => fun s a => by show _ ≤ (enter P s a).tree.length; rw [enter_len]; omega
 | n + 1 => fun s a => by
  have h := enter_len P s a
  unfold vis
  by_cases q : (enter P s a).val < reach P s
  ·rw [if_pos q]
   have := loopF_grows (vis_grows P n) P s a.tree.length us (enter P s a)
   omega
  ·rw [if_neg q]; omega
theorem modify_append (t r : List Br) (i : Nat) (f : Br → Br) (h : i < t.length) : (t ++ r).modify i f = t.modify i f ++ r := by
 apply List.ext_getElem?
 intro j
 rw [List.getElem?_modify]
 by_cases hj : j < t.length
 ·rw [List.getElem?_append_left hj, List.getElem?_append_left (by rw [modify_len]; exact hj), List.getElem?_modify]
 ·have hj : t.length ≤ j := by omega
  have e : ¬ i = j := by omega
  rw [List.getElem?_append_right hj, List.getElem?_append_right (by rw [modify_len]; exact hj), modify_len]
  simp only [e, ↓reduceIte]
  cases r[j - t.length]? <;> rfl
def bumps (n : Nat) (t : List Br) (i : Nat) : List Br := t.modify i fun b => ⟨b.kids + n, b.bound⟩
theorem bumps_zero (t : List Br) (i : Nat) : bumps 0 t i = t := by
 have : (fun b : Br => (⟨b.kids + ((0 : Nat) : Int), b.bound⟩ : Br)) = id := by funext b; show (⟨b.kids + 0, b.bound⟩ : Br) = b; rw [Int.add_zero]
 unfold bumps; rw [this, List.modify_id]
theorem bumps_succ (n : Nat) (t : List Br) (i : Nat) : bumps n (t.modify i bump) i = bumps (n + 1) t i := by
 unfold bumps
 apply List.ext_getElem?
 intro j
 rw [List.getElem?_modify, List.getElem?_modify, List.getElem?_modify]
 by_cases h : i = j
 ·simp only [h, ↓reduceIte]
  cases t[j]? with
  | none => rfl
  | some b =>
   show some (⟨b.kids + 1 + n, b.bound⟩ : Br) = some ⟨b.kids + ((n + 1 : Nat) : Int), b.bound⟩
   have : b.kids + 1 + (n : Int) = b.kids + ((n + 1 : Nat) : Int) := by omega
   rw [this]
 ·simp only [h, ↓reduceIte]
  cases t[j]? <;> rfl
theorem bumps_last (n : Nat) (t : List Br) (b : Br) : bumps n (t ++ [b]) t.length = t ++ [⟨b.kids + n, b.bound⟩] := by
 unfold bumps
 apply List.ext_getElem?
 intro j
 rw [List.getElem?_modify]
 by_cases h : t.length = j
 ·subst h
  rw [List.getElem?_append_right (Nat.le_refl _), List.getElem?_append_right (Nat.le_refl _), Nat.sub_self]
  simp
 ·simp only [h, ↓reduceIte, id_map']
  by_cases q : j < t.length
  ·rw [List.getElem?_append_left q, List.getElem?_append_left q]
  ·rw [List.getElem?_append_right (by omega), List.getElem?_append_right (by omega)]
   have : j - t.length = (j - t.length - 1) + 1 := by omega
   rw [this]; rfl
theorem loopF_like {f : Nd → Acc → Acc} {g : Nd → VB → VB × List Br} (hf : Grows f) (h : Like f g) (P : Pr) (s : Nd) (i : Nat) : ∀ (l : List Int) (a : Acc), i < a.tree.length →
  (a.tree.length + (kidsU g (l.filterMap (next P s)) a.vb).2.length ≤ 4000 →
   loopF f P s i l a = ⟨(kidsU g (l.filterMap (next P s)) a.vb).1.1, (kidsU g (l.filterMap (next P s)) a.vb).1.2, bumps (l.filterMap (next P s)).length a.tree i ++ (kidsU g (l.filterMap (next P s)) a.vb).2⟩)
  ∧ (4000 < a.tree.length + (kidsU g (l.filterMap (next P s)) a.vb).2.length → 4000 < (loopF f P s i l a).tree.length)
 | [], a, _ => by
  refine ⟨fun _ => ?_, fun q => ?_⟩
  ·show a = ⟨a.val, a.best, bumps 0 a.tree i ++ []⟩
   rw [bumps_zero, List.append_nil]
  ·exact q
 | u :: l, a, hi => by
  unfold loopF
  by_cases h4 : a.tree.length ≤ 4000
  case neg =>
   rw [if_neg h4]
   exact ⟨fun q => absurd q (by omega), fun _ => by omega⟩
  rw [if_pos h4]
  cases hn : next P s u with
  | none =>
   rw [List.filterMap_cons_none hn]
   exact loopF_like hf h P s i l a hi
  | some t =>
   rw [List.filterMap_cons_some hn]
   have hs := h t ⟨a.val, a.best, a.tree.modify i bump⟩
   rw [show (⟨a.val, a.best, a.tree.modify i bump⟩ : Acc).vb = a.vb from rfl, show (⟨a.val, a.best, a.tree.modify i bump⟩ : Acc).tree = a.tree.modify i bump from rfl, modify_len] at hs
   simp only [kidsU, List.length_append]
   by_cases q : a.tree.length + (g t a.vb).2.length ≤ 4000
   ·rw [hs.1 q]
    have ih := loopF_like hf h P s i l ⟨(g t a.vb).1.1, (g t a.vb).1.2, a.tree.modify i bump ++ (g t a.vb).2⟩ (by show i < (a.tree.modify i bump ++ (g t a.vb).2).length; rw [List.length_append, modify_len]; omega)
    rw [show (⟨(g t a.vb).1.1, (g t a.vb).1.2, a.tree.modify i bump ++ (g t a.vb).2⟩ : Acc).vb = (g t a.vb).1 from rfl, show (⟨(g t a.vb).1.1, (g t a.vb).1.2, a.tree.modify i bump ++ (g t a.vb).2⟩ : Acc).tree = a.tree.modify i bump ++ (g t a.vb).2 from rfl, List.length_append, modify_len] at ih
    refine ⟨fun k => ?_, fun k => ih.2 (by omega)⟩
    rw [ih.1 (by omega)]
    have e : bumps (l.filterMap (next P s)).length (a.tree.modify i bump ++ (g t a.vb).2) i = bumps (t :: l.filterMap (next P s)).length a.tree i ++ (g t a.vb).2 := by
     rw [List.length_cons, ← bumps_succ]
     exact modify_append _ _ _ _ (by rw [modify_len]; exact hi)
    rw [e, List.append_assoc]
   ·refine ⟨fun k => absurd k (by omega), fun _ => ?_⟩
    have := hs.2 (by omega)
    exact Nat.lt_of_lt_of_le this (loopF_grows hf P s i l _)
theorem bump_new (P : Pr) (s : Nd) (a : Acc) (n : Nat) : bumps n (enter P s a).tree a.tree.length = a.tree ++ [⟨n, reach P s⟩] := by
 rw [enter_tree, bumps_last]
 show a.tree ++ [(⟨0 + n, reach P s⟩ : Br)] = _
 rw [Int.zero_add]
theorem sr_pos (P : Pr) (n : Nat) (s : Nd) (a : VB) (q : (upd s a).1 < reach P s) : sr P (n + 1) s a = ((kidsU (sr P n) (conts P s) (upd s a)).1, ⟨(conts P s).length, reach P s⟩ :: (kidsU (sr P n) (conts P s) (upd s a)).2) := if_pos q
theorem sr_neg (P : Pr) (n : Nat) (s : Nd) (a : VB) (q : ¬(upd s a).1 < reach P s) : sr P (n + 1) s a = (upd s a, [⟨0, reach P s⟩]) := if_neg q
theorem enter_eq (P : Pr) (s : Nd) (a : Acc) : enter P s a = ⟨(upd s a.vb).1, (upd s a.vb).2, a.tree ++ [⟨0, reach P s⟩]⟩ := by
 rw [← enter_vb P s a]; rfl
theorem vis_like (P : Pr) : ∀ n, Like (vis P n) (sr P n)
 | 0 => fun s a => by
  refine ⟨fun _ => enter_eq P s a, fun q => ?_⟩
  show 4000 < (enter P s a).tree.length
  rw [enter_len]; exact q
 | n + 1 => fun s a => by
  have hl := enter_len P s a
  unfold vis
  by_cases q : (enter P s a).val < reach P s
  ·have q1 := q; rw [enter_val] at q1
   rw [if_pos q, sr_pos P n s a.vb q1]
   have h := loopF_like (vis_grows P n) (vis_like P n) P s a.tree.length us (enter P s a) (by omega)
   rw [enter_vb, hl, bump_new] at h
   refine ⟨fun k => ?_, fun k => ?_⟩
   ·rw [h.1 (by have := k; simp only [List.length_cons] at this; show _ + 1 + (kidsU (sr P n) (conts P s) (upd s a.vb)).2.length ≤ _; omega), List.append_assoc]
    rfl
   ·refine h.2 ?_
    have := k; simp only [List.length_cons] at this
    show _ < _ + 1 + (kidsU (sr P n) (conts P s) (upd s a.vb)).2.length; omega
  ·have q1 := q; rw [enter_val] at q1
   rw [if_neg q, sr_neg P n s a.vb q1]
   refine ⟨fun _ => enter_eq P s a, fun k => ?_⟩
   rw [enter_len]; exact k
def best (P : Pr) (A : List Int) : Option (Int × List Int × List Br) :=
 let r := sr P A.length (root P A) (-1, [])
 if r.2.length ≤ 4000 then some (r.1.1, r.1.2, r.2) else none
def ended (a : Acc) : Option (Int × List Int × List Br) := if 4000 < a.tree.length then none else some (a.val, a.best, a.tree)
theorem ended_like {f : Nd → Acc → Acc} {P : Pr} {A : List Int} (h : Like f (sr P A.length)) : ended (f (root P A) ⟨-1, [], []⟩) = best P A := by
 have hs := h (root P A) ⟨-1, [], []⟩
 have hz : (⟨-1, [], []⟩ : Acc).tree.length = 0 := rfl
 rw [hz, Nat.zero_add, show (⟨-1, [], []⟩ : Acc).vb = (-1, []) from rfl] at hs
 unfold ended best
 by_cases q : (sr P A.length (root P A) (-1, [])).2.length ≤ 4000
 ·rw [hs.1 q, if_pos q, List.nil_append]
  exact if_neg (by show ¬ 4000 < (sr P A.length (root P A) (-1, [])).2.length; omega)
 ·rw [if_neg q, if_pos (hs.2 (by omega))]
theorem best_vis (P : Pr) (A : List Int) : ended (vis P A.length (root P A) ⟨-1, [], []⟩) = best P A := ended_like (vis_like P A.length)
end Go.Proofs.Ythkddpgnhaeooaa.Cp
namespace Go.Proofs.Ythkddpgnhaeooaa.Cp
structure Good (P : Pr) (s : Nd) : Prop where
 pos : ∀ a ∈ s.rem, 0 ≤ a
 most : s.v ≤ P.most
theorem next_some {P : Pr} {s t : Nd} {u : Int} (h : next P s u = some t) : ∃ a r, s.rem = a :: r ∧ t = take s u a r ∧ P.may s.c.getLast? u = true ∧ 0 ≤ s.left u - a ∧ s.v + a ≤ P.most := by
 unfold next at h
 cases hr : s.rem with
 | nil => rw [hr] at h; exact absurd h (by simp)
 | cons a r =>
  rw [hr] at h
  simp only at h
  by_cases q : P.may s.c.getLast? u = true ∧ 0 ≤ s.left u - a ∧ s.v + a ≤ P.most
  ·rw [if_pos q] at h
   exact ⟨a, r, rfl, (Option.some.inj h).symm, q⟩
  ·rw [if_neg q] at h; exact absurd h (by simp)
theorem next_good {P : Pr} {s t : Nd} {u : Int} (g : Good P s) (h : next P s u = some t) : Good P t := by
 obtain ⟨a, r, hr, rfl, _, _, q⟩ := next_some h
 exact ⟨fun x hx => g.pos x (hr ▸ List.mem_cons_of_mem a hx), q⟩
theorem next_rem {P : Pr} {s t : Nd} {u : Int} (h : next P s u = some t) : t.rem.length + 1 = s.rem.length := by
 obtain ⟨a, r, hr, rfl, _⟩ := next_some h
 rw [hr]; rfl
theorem sum_nonneg : ∀ {l : List Int}, (∀ a ∈ l, 0 ≤ a) → 0 ≤ l.sum
 | [], _ => Int.le_refl 0
 | a :: l, h => by
  have h1 := h a List.mem_cons_self
  have h2 := sum_nonneg fun x hx => h x (List.mem_cons_of_mem a hx)
  rw [List.sum_cons]; omega
theorem good_reach {P : Pr} {s : Nd} (g : Good P s) : s.v ≤ reach P s := by
 have h1 := sum_nonneg g.pos
 have h2 := g.most
 unfold reach; omega
theorem next_reach {P : Pr} {s t : Nd} {u : Int} (h : next P s u = some t) : reach P t = reach P s := by
 obtain ⟨a, r, hr, rfl, _, _, _⟩ := next_some h
 show min (s.v + a + r.sum) P.most = min (s.v + s.rem.sum) P.most
 rw [hr, List.sum_cons, Int.add_assoc]
theorem run_cons (P : Pr) (s : Nd) (u : Int) (c : List Int) : run P s (u :: c) = match next P s u with | none => none | some t => run P t c := rfl
theorem run_step {P : Pr} {s t : Nd} {u : Int} {c : List Int} (h : run P s (u :: c) = some t) : ∃ s1, next P s u = some s1 ∧ run P s1 c = some t := by
 rw [run_cons] at h
 cases hn : next P s u with
 | none => rw [hn] at h; exact absurd h (by simp)
 | some s1 => rw [hn] at h; exact ⟨s1, rfl, h⟩
theorem run_reach {P : Pr} : ∀ {c : List Int} {s t : Nd}, run P s c = some t → reach P t = reach P s
 | [], _, _, h => by rw [Option.some.inj h]
 | _ :: _, _, _, h => by
  obtain ⟨s1, h1, h2⟩ := run_step h
  rw [run_reach h2, next_reach h1]
theorem run_good {P : Pr} : ∀ {c : List Int} {s t : Nd}, Good P s → run P s c = some t → Good P t
 | [], _, _, g, h => Option.some.inj h ▸ g
 | _ :: _, _, _, g, h => by
  obtain ⟨s1, h1, h2⟩ := run_step h
  exact run_good (next_good g h1) h2
theorem run_c {P : Pr} : ∀ {c : List Int} {s t : Nd}, run P s c = some t → t.c = s.c ++ c
 | [], _, _, h => by rw [Option.some.inj h, List.append_nil]
 | u :: c, s, t, h => by
  obtain ⟨s1, h1, h2⟩ := run_step h
  rw [run_c h2]
  obtain ⟨a, r, _, rfl, _⟩ := next_some h1
  show s.c ++ [u] ++ c = _
  rw [List.append_assoc]; rfl
theorem run_le {P : Pr} {c : List Int} {s t : Nd} (g : Good P s) (h : run P s c = some t) : t.v ≤ reach P s := by
 rw [← run_reach h]; exact good_reach (run_good g h)
theorem run_rem {P : Pr} : ∀ {c : List Int} {s t : Nd}, run P s c = some t → s.rem = s.rem.take c.length ++ t.rem ∧ t.v = s.v + (s.rem.take c.length).sum ∧ t.rem.length + c.length = s.rem.length
 | [], _, _, h => by
  rw [Option.some.inj h]
  refine ⟨by simp, by simp, by simp⟩
 | u :: c, s, t, h => by
  obtain ⟨s1, h1, h2⟩ := run_step h
  obtain ⟨i1, i2, i3⟩ := run_rem h2
  obtain ⟨a, r, hr, rfl, _⟩ := next_some h1
  have e1 : (take s u a r).rem = r := rfl
  have e2 : (take s u a r).v = s.v + a := rfl
  rw [e1] at i1 i2 i3
  rw [e2] at i2
  rw [hr, List.length_cons, List.take_succ_cons, List.sum_cons, List.cons_append, ← i1]
  refine ⟨rfl, by omega, by simp only [List.length_cons]; omega⟩
def before : List Int → List Int → Bool
 | _, [] => false
 | [], _ :: _ => true
 | a :: l, b :: m => if a = b then before l m else decide (a < b)
theorem before_nil (l : List Int) : before l [] = false := by cases l <;> rfl
def OnlyUs (P : Pr) : Prop := ∀ l u, P.may l u = true → u ∈ us
def NoEarlier (P : Pr) (s : Nd) (c : List Int) (v : Int) : Prop := ∀ c' t', run P s c' = some t' → t'.v = v → before c' c = false
structure Told (P : Pr) (s : Nd) (a r : VB) : Prop where
 ge : a.1 ≤ r.1
 all : ∀ c t, run P s c = some t → t.v ≤ r.1
 what : r = a ∨ (a.1 < r.1 ∧ ∃ c t, run P s c = some t ∧ r = (t.v, t.c) ∧ NoEarlier P s c t.v)
structure ToldL (P : Pr) (s : Nd) (l : List Int) (a r : VB) : Prop where
 ge : a.1 ≤ r.1
 all : ∀ u ∈ l, ∀ c t, run P s (u :: c) = some t → t.v ≤ r.1
 what : r = a ∨ (a.1 < r.1 ∧ ∃ u c t, u ∈ l ∧ run P s (u :: c) = some t ∧ r = (t.v, t.c) ∧ ∀ u' ∈ l, ∀ c' t', run P s (u' :: c') = some t' → t'.v = t.v → before (u' :: c') (u :: c) = false)
theorem kids_told {P : Pr} {s : Nd} {g : Nd → VB → VB × List Br} (h : ∀ u t a, next P s u = some t → Told P t a (g t a).1) :
  ∀ (l : List Int) (a : VB), l.Pairwise (· < ·) → ToldL P s l a (kidsU g (l.filterMap (next P s)) a).1
 | [], a, _ => ⟨Int.le_refl _, fun u hu => absurd hu (by simp), .inl rfl⟩
 | u :: l, a, hs => by
  rw [List.pairwise_cons] at hs
  cases hn : next P s u with
  | none =>
   rw [List.filterMap_cons_none hn]
   have ih := kids_told h l a hs.2
   have no : ∀ c t, ¬ run P s (u :: c) = some t := by
    intro c t q; rw [run_cons, hn] at q; exact absurd q (by simp)
   refine ⟨ih.ge, ?_, ?_⟩
   ·intro w hw c t q
    rcases List.mem_cons.1 hw with rfl | hw
    ·exact absurd q (no c t)
    ·exact ih.all w hw c t q
   ·rcases ih.what with q | ⟨q1, w, c, t, hw, q2, q3, q4⟩
    ·exact .inl q
    ·refine .inr ⟨q1, w, c, t, List.mem_cons_of_mem u hw, q2, q3, ?_⟩
     intro u' hu' c' t' q5 q6
     rcases List.mem_cons.1 hu' with rfl | hu'
     ·exact absurd q5 (no c' t')
     ·exact q4 u' hu' c' t' q5 q6
  | some t1 =>
   rw [List.filterMap_cons_some hn]
   have k := h u t1 a hn
   have ih := kids_told h l (g t1 a).1 hs.2
   show ToldL P s (u :: l) a (kidsU g (l.filterMap (next P s)) (g t1 a).1).1
   refine ⟨Int.le_trans k.ge ih.ge, ?_, ?_⟩
   ·intro w hw c t q
    rcases List.mem_cons.1 hw with rfl | hw
    ·rw [run_cons, hn] at q
     exact Int.le_trans (k.all c t q) ih.ge
    ·exact ih.all w hw c t q
   ·rcases ih.what with q | ⟨q1, w, c, t, hw, q2, q3, q4⟩
    ·rw [q]
     rcases k.what with p | ⟨p1, c, t, p2, p3, p4⟩
     ·exact .inl p
     ·refine .inr ⟨p1, u, c, t, List.mem_cons_self, by rw [run_cons, hn]; exact p2, p3, ?_⟩
      intro u' hu' c' t' q5 q6
      rcases List.mem_cons.1 hu' with rfl | hu'
      ·rw [run_cons, hn] at q5
       show (if u' = u' then before c' c else _) = false
       rw [if_pos rfl]
       exact p4 c' t' q5 q6
      ·have := hs.1 u' hu'
       show (if u' = u then before c' c else decide (u' < u)) = false
       rw [if_neg (by omega), decide_eq_false (by omega)]
    ·refine .inr ⟨Int.lt_of_le_of_lt k.ge q1, w, c, t, List.mem_cons_of_mem u hw, q2, q3, ?_⟩
     intro u' hu' c' t' q5 q6
     rcases List.mem_cons.1 hu' with rfl | hu'
     ·rw [run_cons, hn] at q5
      have := k.all c' t' q5
      rw [q3] at q1
      have : (g t1 a).1.1 < t.v := q1
      omega
     ·exact q4 u' hu' c' t' q5 q6
theorem us_sorted : us.Pairwise (· < ·) := by decide
theorem upd_ge (s : Nd) (a : VB) : a.1 ≤ (upd s a).1 ∧ s.v ≤ (upd s a).1 := by
 unfold upd
 by_cases h : a.1 < s.v
 ·rw [if_pos h]; exact ⟨by show a.1 ≤ s.v; omega, Int.le_refl _⟩
 ·rw [if_neg h]; exact ⟨Int.le_refl _, by omega⟩
theorem upd_told {P : Pr} {s : Nd} {a : VB} (h : ∀ c t, run P s c = some t → t.v ≤ (upd s a).1) : Told P s a (upd s a) := by
 refine ⟨(upd_ge s a).1, h, ?_⟩
 unfold upd
 by_cases q : a.1 < s.v
 ·rw [if_pos q]
  exact .inr ⟨q, [], s, rfl, rfl, fun c' _ _ _ => before_nil c'⟩
 ·rw [if_neg q]; exact .inl rfl
theorem sr_told {P : Pr} (hP : OnlyUs P) : ∀ (n : Nat) (s : Nd) (a : VB), s.rem.length ≤ n → Good P s → Told P s a (sr P n s a).1
 | 0, s, a, hn, g => by
  show Told P s a (upd s a)
  refine upd_told fun c t q => ?_
  cases c with
  | nil => rw [← Option.some.inj q]; exact (upd_ge s a).2
  | cons u c =>
   obtain ⟨s1, h1, _⟩ := run_step q
   have := next_rem h1
   omega
 | n + 1, s, a, hn, g => by
  by_cases q : (upd s a).1 < reach P s
  ·rw [sr_pos P n s a q]
   have k : ToldL P s us (upd s a) (kidsU (sr P n) (conts P s) (upd s a)).1 := by
    refine kids_told (fun u t b hu => ?_) us (upd s a) us_sorted
    have := next_rem hu
    exact sr_told hP n t b (by omega) (next_good g hu)
   have hu := upd_ge s a
   refine ⟨Int.le_trans hu.1 k.ge, ?_, ?_⟩
   ·intro c t p
    cases c with
    | nil => rw [← Option.some.inj p]; exact Int.le_trans hu.2 k.ge
    | cons u c =>
     obtain ⟨s1, h1, _⟩ := run_step p
     obtain ⟨_, _, _, _, h2, _⟩ := next_some h1
     exact k.all u (hP _ _ h2) c t p
   ·rcases k.what with p | ⟨p1, u, c, t, hu', p2, p3, p4⟩
    ·show (kidsU (sr P n) (conts P s) (upd s a)).1 = a ∨ _
     rw [p]
     unfold upd
     by_cases z : a.1 < s.v
     ·rw [if_pos z]
      exact .inr ⟨z, [], s, rfl, rfl, fun c' _ _ _ => before_nil c'⟩
     ·rw [if_neg z]; exact .inl rfl
    ·refine .inr ⟨Int.lt_of_le_of_lt hu.1 p1, u :: c, t, p2, p3, ?_⟩
     intro c' t' p5 p6
     cases c' with
     | nil =>
      have e := Option.some.inj p5
      rw [← e] at p6
      rw [p3] at p1
      have : (upd s a).1 < t.v := p1
      omega
     | cons u' c' =>
      obtain ⟨s1, h1, _⟩ := run_step p5
      obtain ⟨_, _, _, _, h2, _⟩ := next_some h1
      exact p4 u' (hP _ _ h2) c' t' p5 p6
  ·rw [sr_neg P n s a q]
   refine upd_told fun c t p => ?_
   have := run_le g p
   omega
theorem best_told {P : Pr} (hP : OnlyUs P) {A : List Int} (hA : ∀ a ∈ A, 0 ≤ a) (hm : 0 ≤ P.most) {n : Int} {b : List Int} {l : List Br} (h : best P A = some (n, b, l)) :
  (∃ t, run P (root P A) b = some t ∧ t.v = n) ∧ (∀ c t, run P (root P A) c = some t → t.v ≤ n) ∧ NoEarlier P (root P A) b n := by
 have g : Good P (root P A) := ⟨hA, hm⟩
 have k := sr_told hP A.length (root P A) (-1, []) (Nat.le_refl _) g
 unfold best at h
 by_cases q : (sr P A.length (root P A) (-1, [])).2.length ≤ 4000
 ·have h := Option.some.inj ((if_pos q).symm.trans h)
  have e : (sr P A.length (root P A) (-1, [])).1 = (n, b) := by
   have e1 : (sr P A.length (root P A) (-1, [])).1.1 = n := congrArg Prod.fst h
   have e2 : (sr P A.length (root P A) (-1, [])).1.2 = b := congrArg (fun x => x.2.1) h
   rw [← e1, ← e2]
  rw [e] at k
  have h0 := k.all [] (root P A) rfl
  have h0 : (0 : Int) ≤ n := h0
  rcases k.what with w | ⟨_, c, t, w2, w3, w4⟩
  ·have : n = -1 := congrArg Prod.fst w
   omega
  ·have e1 : n = t.v := congrArg Prod.fst w3
   have e2 : b = t.c := congrArg Prod.snd w3
   have e3 : t.c = c := run_c w2
   subst e1; rw [e2, e3]
   exact ⟨⟨t, w2, rfl⟩, k.all, w4⟩
 ·exact absurd ((if_neg q).symm.trans h) (by simp)
end Go.Proofs.Ythkddpgnhaeooaa.Cp
namespace Go.Proofs.Ythkddpgnhaeooaa.Cp
abbrev Rd := Int × List Br × List Br
structure Sound (P : Pr) (s : Nd) (x : Rd) : Prop where
 all : ∀ c t, run P s c = some t → t.v ≤ x.1
 le : x.1 ≤ reach P s
 head : ∃ k o, x.2.1 = ⟨k, x.1⟩ :: o
end Go.Proofs.Ythkddpgnhaeooaa.Cp
namespace Go.Proofs.Ythkddpgnhaeooaa.Cp
structure Q where
 uses : Int
 left : List (ByteArray × Int)
 most : Int
 never : List (Int × Int)
def nameB (u : Int) : ByteArray :=
 if u = 0 then ⟨⟨[104, 111, 109, 101]⟩⟩ else if u = 1 then ⟨⟨[115, 104, 111, 112]⟩⟩ else if u = 2 then ⟨⟨[119, 111, 114, 107]⟩⟩ else if u = 3 then ⟨⟨[112, 97, 114, 107]⟩⟩
 else if u = 4 then ⟨⟨[112, 108, 97, 110, 116]⟩⟩ else ⟨⟨[104, 97, 108, 108]⟩⟩
def bitB (w u : Int) : Bool := decide (w / 2 ^ u.toNat % 2 = 1)
def hasP (l : List (Int × Int)) (x : Int × Int) : Bool := l.any fun y => decide (x = y)
def mayQ (q : Q) (last : Option Int) (u : Int) : Bool :=
 decide (0 ≤ u) && (decide (u < 6) && (bitB q.uses u && (match last with | none => true | some w => !hasP q.never (w, u))))
def limS (u : Int) (l : Int) (e : ByteArray × Int) : Int := if e.1 = nameB u then max (-1) (min l e.2) else l
def limQ (q : Q) (u : Int) : Int := q.left.foldl (limS u) q.most
def prQ (q : Q) : Pr := ⟨mayQ q, limQ q, q.most⟩
def badP (p : Int × Int) : Bool := decide (min p.1 p.2 < 0) || decide (6 ≤ max p.1 p.2)
def validQ (q : Q) : Bool := decide (0 ≤ q.uses) && (decide (q.uses ≤ 63) && (decide (0 ≤ q.most) && (decide (q.left.length ≤ 30) && (decide (q.never.length ≤ 36) && !q.never.any badP))))
theorem validQ_iff {q : Q} : validQ q = true ↔ 0 ≤ q.uses ∧ q.uses ≤ 63 ∧ 0 ≤ q.most ∧ q.left.length ≤ 30 ∧ q.never.length ≤ 36 ∧ q.never.any badP = false := by
 unfold validQ
 simp only [Bool.and_eq_true, decide_eq_true_eq, Bool.not_eq_true']
theorem may_us {q : Q} : OnlyUs (prQ q) := by
 intro l u h
 have h : mayQ q l u = true := h
 unfold mayQ at h
 simp only [Bool.and_eq_true, decide_eq_true_eq] at h
 unfold us
 have h0 := h.1
 have h1 := h.2.1
 have : u = 0 ∨ u = 1 ∨ u = 2 ∨ u = 3 ∨ u = 4 ∨ u = 5 := by omega
 simp only [List.mem_cons, List.not_mem_nil, or_false]
 omega
theorem fold_hi (u : Int) : ∀ (L : List (ByteArray × Int)) (l : Int), -1 ≤ l → L.foldl (limS u) l ≤ l ∧ -1 ≤ L.foldl (limS u) l
 | [], l, h => ⟨Int.le_refl _, h⟩
 | e :: L, l, h => by
  have hs : -1 ≤ limS u l e ∧ limS u l e ≤ l := by unfold limS; split <;> omega
  have := fold_hi u L (limS u l e) hs.1
  rw [List.foldl_cons]
  omega
end Go.Proofs.Ythkddpgnhaeooaa.Cp
namespace Go.Proofs.Ythkddpgnhaeooaa.Bm
open Go Go.RowKit
def entR : Rec (ByteArray × Int) where
 enc p := [.string p.1, .int .i64 p.2]
 m := 1
 len _ := rfl
 set _ := rfl
 bel _ _ := rfl
def pairR : Rec (Int × Int) where
 enc p := [.int .i64 p.1, .int .i64 p.2]
 m := 1
 len _ := rfl
 set _ := rfl
 bel _ _ := rfl
theorem ent_val (p : ByteArray × Int) : entR.val p = .agg ⟨[.string p.1, .int .i64 p.2]⟩ := rfl
theorem pair_val (p : Int × Int) : pairR.val p = .agg ⟨[.int .i64 p.1, .int .i64 p.2]⟩ := rfl
structure Pb where
 uses : Int
 kl : Option Bool
 left : List (ByteArray × Int)
 most : Int
 kn : Option Bool
 never : List (Int × Int)
def Pb.cells (p : Pb) : List Value := [.int .i64 p.uses, entR.o p.kl p.left, .int .i64 p.most, pairR.o p.kn p.never]
def Pb.val (p : Pb) : Value := .agg ⟨p.cells⟩
structure PbOk (p : Pb) : Prop where
 kl : Rec.Ok p.kl p.left
 kn : Rec.Ok p.kn p.never
 u : -9223372036854775808 ≤ p.uses ∧ p.uses ≤ 9223372036854775807
 m : -9223372036854775808 ≤ p.most ∧ p.most ≤ 9223372036854775807
 nl : p.left.length ≤ 40
 nn : p.never.length ≤ 40
theorem Pb.reify (p : Pb) (h : Heap) (n : Nat) : Bm.reify E.P (n + 1) h p.val = some p.val := by
 have hc : p.cells.all (settled depth) = true := by
  unfold Pb.cells depth
  simp only [List.all_cons, List.all_nil, set_int, Rec.o_set, Bool.and_self]
 show (reifyC E.P n h p.cells).map _ = _
 rw [reifyC_set hc]; rfl
theorem Pb.set (p : Pb) : settled depth p.val = true := by
 show p.cells.all (settled 7) = true
 unfold Pb.cells
 simp only [List.all_cons, List.all_nil, set_int, Rec.o_set, Bool.and_self]
theorem lit_int (h : Heap) (z : Int) : buildSliceT (some ⟨3, 1, 8, .int .i64 0, ⟨some false, some 1⟩⟩) false h 1 #[(0, .int .i64 z)] = some (lst true (intE.vals [z]), h) := Enc.lit (O := intE) z rfl rfl rfl
theorem lit_none (h : Heap) (b : Bool) : buildSliceT (some ⟨3, 1, 8, .int .i64 0, ⟨some false, some 1⟩⟩) b h 0 #[] = some (lst true [], h) := build_none'.trans rfl
theorem sI1 : szOf E.P 3 = some 1 := by kernel_rfl
theorem gI1 : aggT E.P 3 = some false := by kernel_rfl
def eqG {α : Type} [DecidableEq α] (a b : List α) : Bool := decide (a = b)
theorem eqG_cons {α : Type} [DecidableEq α] {a b : α} {x y : List α} : eqG (a :: x) (b :: y) = (decide (a = b) && eqG x y) := by
 unfold eqG; simp only [List.cons.injEq, Bool.decide_and]
theorem ints25 (k m : Option Bool) (l r : List Int) (hk : Enc.Ok k l) (hm : Enc.Ok m r) (hl : l.length ≤ 1000000) : pureCall E.P (L E) 17 [intE.o k l, intE.o m r] = some (.bool (decide (l = r))) := by
 have ll := fun h => Enc.o_len (O := intE) (h := h) hk
 have lr := fun h => Enc.o_len (O := intE) (h := h) hm
 have il := fun (i : Nat) (hi : i < l.length) => Enc.index_o (O := intE) (t := 3) (k := .i64) hk hi
 have ir := fun (i : Nat) (hi : i < r.length) => Enc.index_o (O := intE) (t := 3) (k := .i64) hm hi
 generalize intE.o k l = VL at *
 generalize intE.o m r = VR at *
 rw [pureCall_fn F17 rfl]
 by_cases hlen : l.length = r.length
 ·simp -implicitDefEqProofs [r17, p17, ll, lr, hlen]
  rw [LL_for (γ := Unit) l () (fun i _ => [(5, .int .i64 i)]) (fun _ _ => []) (fun i rest _ => if eqG rest (r.drop i) then (.exit 0, [(5, undef)], []) else (.ret, [(4, .bool false), (5, undef)], [])) (fun _ _ => True) (by omega) trivial]
  ·rw [List.drop_zero]
   by_cases q : l = r
   ·subst q
    have h : eqG l l = true := decide_eq_true rfl
    simp -implicitDefEqProofs [k17_4, h]
   ·have h : eqG l r = false := decide_eq_false q
    simp -implicitDefEqProofs [k17_4, h, q]
  ·simp -implicitDefEqProofs [k17_4]
  ·rfl
  ·intro nx i c hi _
   have hd0 : eqG [] (r.drop i) = true := by rw [List.drop_eq_nil_of_le (by omega)]; rfl
   rw [hd0]
   simp -implicitDefEqProofs [r17_4, k17_4, ll, hi, hlen, trim_le]
  ·intro nx i v rest c hi hv hd hw _ ih
   have ih := ih () trivial
   have hi' : i < r.length := by omega
   have hi2 : ((i : Int) < r.length) := by omega
   have x1 := il i hi
   have x2 := ir i hi'
   rw [hv] at x1
   have hrd : r.drop i = r[i] :: r.drop (i + 1) := List.drop_eq_getElem_cons hi'
   rw [hrd, eqG_cons]
   simp -implicitDefEqProofs [k17_4] at ih
   by_cases he : v = r[i]
   ·rw [← he] at x2
    simp -implicitDefEqProofs [r17_4, k17_4, ll, hi', hlen, x1, x2, hw, ← he, trim_le, intE]
    exact ih
   ·simp -implicitDefEqProofs [r17_4, k17_4, ll, hi', hlen, x1, x2, he, trim_le, intE]
 ·have : ¬ l = r := fun e => hlen (by rw [e])
  have hlen' : ¬ ((l.length : Int) = r.length) := by omega
  simp -implicitDefEqProofs [r17, p17, ll, lr, hlen', this]
def idxB {α : Type} (f : α → Bool) : List α → Int → Int
 | [], _ => -1
 | a :: l, i => if f a = true then i else idxB f l (i + 1)
theorem idxB_cons {α : Type} (f : α → Bool) (a : α) (l : List α) (i : Int) : idxB f (a :: l) i = if f a = true then i else idxB f l (i + 1) := rfl
theorem idxB_any {α : Type} (f : α → Bool) : ∀ (l : List α) (i : Int), 0 ≤ i → (l.any f = true → i ≤ idxB f l i) ∧ (l.any f = false → idxB f l i = -1)
 | [], _, _ => ⟨fun h => absurd h (by simp), fun _ => rfl⟩
 | a :: l, i, hi => by
  rw [idxB_cons, List.any_cons]
  have ih := idxB_any f l (i + 1) (by omega)
  by_cases h : f a = true
  ·rw [if_pos h, h]; exact ⟨fun _ => Int.le_refl _, fun q => absurd q (by simp)⟩
  ·rw [if_neg h, Bool.eq_false_iff.2 h, Bool.false_or]
   exact ⟨fun q => by have := ih.1 q; omega, ih.2⟩
theorem idxB_pos {α : Type} (f : α → Bool) (l : List α) : decide (0 ≤ idxB f l 0) = l.any f := by
 have h := idxB_any f l 0 (Int.le_refl _)
 cases q : l.any f
 ·rw [h.2 q]; rfl
 ·exact decide_eq_true (h.1 q)
theorem index_ints (k : Option Bool) (l : List Int) (z : Int) (hk : Enc.Ok k l) (hl : l.length ≤ 1000000) : pureCall E.P (L E) 42 [intE.o k l, .int .i64 z] = some (.int .i64 (idxB (fun a => decide (z = a)) l 0)) := by
 have ll := fun h => Enc.o_len (O := intE) (h := h) hk
 have il := fun (i : Nat) (hi : i < l.length) => Enc.index_o (O := intE) (t := 3) (k := .i64) hk hi
 generalize intE.o k l = VL at *
 rw [pureCall_fn F42 rfl]
 generalize hf : (fun a => decide (z = a)) = f
 simp -implicitDefEqProofs [r42, p42, ll]
 rw [LL_for (γ := Unit) l () (fun i _ => [(8, .int .i64 i)]) (fun _ _ => []) (fun i rest _ => if idxB f rest i = -1 then (.exit 0, [(8, undef)], []) else (.ret, [(4, .int .i64 (idxB f rest i)), (8, undef)], [])) (fun _ _ => True) (by omega) trivial]
 ·rw [show ((0 : Nat) : Int) = 0 from rfl]
  by_cases q : idxB f l 0 = -1
  ·simp -implicitDefEqProofs [k42_2, q]
  ·simp -implicitDefEqProofs [k42_2, q]
 ·simp -implicitDefEqProofs [k42_2]
 ·rfl
 ·intro nx i c hi _
  have e : ∀ z, idxB f [] z = -1 := fun _ => rfl
  simp -implicitDefEqProofs [r42_2, k42_2, hi, e, trim_le]
 ·intro nx i v rest c hi hv hd hw _ ih
  have ih := ih () trivial
  have hi2 : ((i : Int) < l.length) := by omega
  have x1 := il i hi
  rw [hv] at x1
  have e2 : (((i + 1 : Nat) : Int)) = (i : Int) + 1 := by omega
  rw [e2] at ih
  rw [idxB_cons]
  simp -implicitDefEqProofs [k42_2] at ih
  have ef : f v = decide (z = v) := by rw [← hf]
  rw [ef]
  by_cases he : z = v
  ·have hn : ¬ ((i : Int) = -1) := by omega
   subst he
   simp -implicitDefEqProofs [r42_2, k42_2, hi2, x1, hn, trim_le, intE]
  ·simp -implicitDefEqProofs [r42_2, k42_2, hi2, x1, he, hw, trim_le, intE]
   exact ih
open Cp (badP hasP)
theorem bad_spec (p : Int × Int) : pureCall E.P (L E) 50 [pairR.val p] = some (.bool (badP p)) := by
 have mn : ∀ a b : Int, aMinMax false [.int .i64 a, .int .i64 b] = some (.int .i64 (min a b)) := fun a b => by
  show some (Value.int .i64 (if b < a then b else a)) = _
  congr 2
  omega
 have mx : ∀ a b : Int, aMinMax true [.int .i64 a, .int .i64 b] = some (.int .i64 (max a b)) := fun a b => by
  show some (Value.int .i64 (if b > a then b else a)) = _
  congr 2
  omega
 unfold badP
 rw [pureCall_fn F50 rfl, pair_val]
 generalize p.1 = a
 generalize p.2 = b
 have i0 : ∀ t, indexAddrT (.arr 2 ⟨some false, some 1⟩) (.pointer (some ⟨0, 0, none⟩)) (.int .i64 0) = some (.pointer (some ⟨0, 0, none⟩)) ∧ indexAddrT (.arr 2 ⟨some false, some 1⟩) (.pointer (some ⟨0, 0, none⟩)) (.int t 1) = some (.pointer (some ⟨0, 1, none⟩)) := fun t => ⟨rfl, rfl⟩
 have i0a := (i0 .i64).1
 have i0b := (i0 .i64).2
 by_cases h : min a b < 0
 ·simp -implicitDefEqProofs [r50, p50, i0a, i0b, mn, h]
 ·simp -implicitDefEqProofs [r50, p50, i0a, i0b, mn, mx, h]
end Go.Proofs.Ythkddpgnhaeooaa.Bm
