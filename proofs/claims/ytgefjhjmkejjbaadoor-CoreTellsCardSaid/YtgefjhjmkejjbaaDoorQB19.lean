/-
 Chapter 27: sets of alternatives as numbers, as the machine reckons with them. Conditions: few alternatives.
-/
import Derived.Test.YtgefjhjmkejjbaaDoorQB15
import Derived.Test.YtgefjhjmkejjbaaDoorQB16
import Derived.Test.YtgefjhjmkejjbaaDoorQB18
import Derived.Test.YtgefjhjmkejjbaaDoorQB17
namespace Go.Proofs.YtgefjhjmkejjbaaDoor.Bm
open Go Go.RowKit
structure Enc (α : Type) where
 e : α → Value
 one : ∀ a, one (e a) = true
 set : ∀ a n, settled (n + 1) (e a) = true
 bel : ∀ a d n, below (d + 1) n (e a) = true
 fits : ∀ a sz, fitsTT ⟨some false, sz⟩ (e a) = true
namespace Enc
variable {α : Type} {O : Enc α} {h : Heap} {l m : List α} {P : Program}
def vals (O : Enc α) (l : List α) : List Value := l.map O.e
def o (O : Enc α) (k : Option Bool) (l : List α) : Value := match k with | none => .slice none 0 0 | some b => lst b (O.vals l)
def Ok (k : Option Bool) (l : List α) : Prop := k = none → l = []
theorem ok_some {b : Bool} : Ok (some b) l := fun h => by cases h
def row (O : Enc α) (t : TypeId) (l : List α) : AObj := .cells t (O.vals l) 1
def part (b n : Nat) (l : List α) : Value := .slice (some ⟨b, 0, some l.length⟩) n l.length
def sl (b : Nat) (l : List α) : Value := .slice (some ⟨b, 0, some l.length⟩) l.length l.length
def at_ (b : Nat) (l : List α) (i : Nat) : Value := .pointer (some ⟨b, i, some l.length⟩)
theorem sl_part {b : Nat} : sl b l = part b l.length l := rfl
theorem vals_len : (O.vals l).length = l.length := List.length_map _
theorem vals_app : O.vals (l ++ m) = O.vals l ++ O.vals m := List.map_append
theorem e_cells (a : α) : cellsL (O.e a) = [O.e a] := by
 have := O.one a
 unfold cellsL
 split
 ·rename_i h; rw [h] at this; cases this
 ·rfl
theorem e_cellsOf (a : α) : cellsOf (O.e a) = some [O.e a] := by
 have := O.one a
 unfold cellsOf
 split
 ·rename_i h; rw [h] at this; cases this
 ·rename_i h; rw [h] at this; cases this
 ·rename_i h; rw [h] at this; cases this
 ·rfl
theorem vals_all (l : List α) : (O.vals l).all (fun v => (cellsL v).length == 1) = true := by
 rw [List.all_eq_true]
 intro v hv
 obtain ⟨a, _, rfl⟩ := List.mem_map.1 hv
 rw [e_cells]; rfl
theorem vals_set (l : List α) : (O.vals l).all (settled 8) = true := by
 rw [List.all_eq_true]
 intro v hv
 obtain ⟨a, _, rfl⟩ := List.mem_map.1 hv
 exact O.set a 7
theorem vals_flat : ∀ l : List α, (O.vals l).flatMap cellsL = O.vals l
 | [] => rfl
 | a :: l => by
  show cellsL (O.e a) ++ (O.vals l).flatMap cellsL = O.e a :: O.vals l
  rw [e_cells, vals_flat l]; rfl
theorem vals_get {i : Nat} (hi : i < l.length) : (O.vals l)[i]? = some (O.e l[i]) := by
 unfold vals; rw [List.getElem?_map, List.getElem?_eq_getElem hi]; rfl
theorem vals_take (n : Nat) : (O.vals l).take n = O.vals (l.take n) := by unfold vals; rw [List.map_take]
theorem vals_drop (n : Nat) : (O.vals l).drop n = O.vals (l.drop n) := by unfold vals; rw [List.map_drop]
theorem vals_put {i : Nat} {a : α} : (O.vals l).set i (O.e a) = O.vals (l.set i a) := by unfold vals; rw [List.map_set]
theorem o_len {k : Option Bool} (hk : Ok k l) : lenT .sl h (O.o k l) = some (.int .i64 l.length) := by
 cases k with
 | none => rw [hk rfl]; rfl
 | some b => show lenT .sl h (lst b (O.vals l)) = _; rw [len_lst, vals_len]
theorem o_one {k : Option Bool} : Bm.one (O.o k l) = true := by cases k <;> rfl
theorem o_set {k : Option Bool} {n : Nat} : settled (n + 1) (O.o k l) = true := by cases k <;> rfl
theorem o_bel {k : Option Bool} {d n : Nat} : below (d + 1) n (O.o k l) = true := by cases k <;> rfl
theorem o_fits {k : Option Bool} {sz : Option Nat} : fitsTT ⟨some false, sz⟩ (O.o k l) = true := by cases k <;> rfl
theorem o_reify {k : Option Bool} {n : Nat} : reify P (n + 1) h (O.o k l) = some (O.o k l) := by cases k <;> rfl
theorem o_reifyR {k : Option Bool} : reifyR P h (O.o k l) = some (O.o k l) := by cases k <;> rfl
theorem o_cellsL {k : Option Bool} : cellsL (O.o k l) = [O.o k l] := by cases k <;> rfl
theorem o_cellsOf {k : Option Bool} : cellsOf (O.o k l) = some [O.o k l] := by cases k <;> rfl
theorem o_frz {k : Option Bool} {lo : Nat} : freezeV P depth lo h (O.o k l) = some (O.o k l, h) := by cases k <;> rfl
theorem cells_tree {x : Bool} : sliceCells h 1 (lst x (O.vals l)) = some (O.vals l, l.length) := by
 rw [cells_lst (vals_all l), vals_flat, vals_len]
theorem cells_o {k : Option Bool} (hk : Ok k l) : sliceCells h 1 (O.o k l) = some (O.vals l, l.length) := by
 cases k with
 | none => rw [hk rfl]; rfl
 | some b => exact cells_tree
theorem index_tree {x : Bool} {t : TypeId} {i : Nat} {k : IntKind} (hi : i < l.length) : indexAddrT (.sl t ⟨some false, some 1⟩) (lst x (O.vals l)) (.int k (i : Int)) = some (cptr (O.e l[i])) := by
 rw [index_lst, if_pos (by omega), Int.toNat_natCast, vals_get hi, Option.bind_some, O.fits, e_cells]; rfl
theorem index_o {x : Option Bool} {t : TypeId} {i : Nat} {k : IntKind} (hx : Ok x l) (hi : i < l.length) : indexAddrT (.sl t ⟨some false, some 1⟩) (O.o x l) (.int k (i : Int)) = some (cptr (O.e l[i])) := by
 cases x with
 | none => rw [hx rfl] at hi; exact absurd hi (Nat.not_lt_zero i)
 | some b => exact index_tree hi
theorem load_e (a : α) {sz : Option Nat} : loadT ⟨some false, sz⟩ h (cptr (O.e a)) = some (O.e a) := by rw [load_cptr, O.fits, if_pos rfl]
theorem take_tree {x : Bool} {t : TypeId} {g : Option Bool} {n : Nat} {k : IntKind} (hn : n ≤ l.length) : sliceT (.sl t ⟨g, some 1⟩) h (lst x (O.vals l)) none (some (.int k (n : Int))) none = some (lst (x && n == l.length) (O.vals (l.take n))) := by
 rw [slice_take (vals_all l) (by rw [vals_len]; exact hn), vals_len, vals_take]
theorem drop_tree {x : Bool} {t : TypeId} {g : Option Bool} {n : Nat} {z : Int} {k : IntKind} (hz : z = (n : Nat)) (hn : n ≤ l.length) : sliceT (.sl t ⟨g, some 1⟩) h (lst x (O.vals l)) (some (.int k z)) none none = some (lst x (O.vals (l.drop n))) := by
 rw [slice_drop (vals_all l) hz (by rw [vals_len]; exact hn), vals_drop]
theorem row_bel {n : Nat} {t : TypeId} : belowO n (O.row t l) = true := by
 show (O.vals l).all (below 8 n) = true
 rw [List.all_eq_true]
 intro v hv
 obtain ⟨a, _, rfl⟩ := List.mem_map.1 hv
 exact O.bel a 7 n
theorem part_bel {n d b k : Nat} (hb : b < n) : below (d + 1) n (part b k l) = true := decide_eq_true hb
theorem sl_bel {n d b : Nat} (hb : b < n) : below (d + 1) n (sl b l) = true := decide_eq_true hb
theorem part_len {b n : Nat} : lenT .sl h (part b n l) = some (.int .i64 n) := rfl
theorem sl_len {b : Nat} : lenT .sl h (sl b l) = some (.int .i64 l.length) := rfl
theorem part_index {b n i : Nat} {t : TypeId} {g : Option Bool} {k : IntKind} (hi : i < n) : indexAddrT (.sl t ⟨g, some 1⟩) (part b n l) (.int k (i : Int)) = some (at_ b l i) := by
 unfold part
 rw [index_slice, if_pos ⟨by omega, by omega⟩]
 show some (Value.pointer (some ⟨b, 0 + (i : Int).toNat * 1, some l.length⟩)) = _
 rw [Int.toNat_natCast, Nat.mul_one, Nat.zero_add]; rfl
theorem sl_index {b i : Nat} {t : TypeId} {g : Option Bool} {k : IntKind} (hi : i < l.length) : indexAddrT (.sl t ⟨g, some 1⟩) (sl b l) (.int k (i : Int)) = some (at_ b l i) := part_index hi
theorem row_of {b n : Nat} {t : TypeId} (hob : h[b]? = some (O.row t l)) (hn : n = l.length) {off : Nat} : rowOf h ⟨b, off, some n⟩ = some (O.vals l) := by
 subst hn
 unfold rowOf
 show (match h[b]? with | some (.cells _ c g) => _ | _ => none) = _
 rw [hob]
 show (if stampOk _ 1 (O.vals l).length = true then some (O.vals l) else none) = _
 rw [if_pos (by unfold stampOk; rw [vals_len]; simp)]
theorem fits_row {b n : Nat} {t : TypeId} (hob : h[b]? = some (O.row t l)) (hn : n = l.length) {off : Nat} : fitsRow h ⟨b, off, some n⟩ 1 = true := by
 subst hn
 unfold fitsRow
 show (match h[b]? with | some (.cells _ c g) => _ | _ => false) = true
 rw [hob]
 show (stampOk _ 1 (O.vals l).length && _) = true
 unfold stampOk; rw [vals_len]; simp
theorem load_at {b i : Nat} {t : TypeId} {sz : Option Nat} (hob : h[b]? = some (O.row t l)) (hi : i < l.length) : loadT ⟨some false, sz⟩ h (at_ b l i) = some (O.e l[i]) := by
 unfold at_
 rw [load_one, row_of hob rfl, Option.bind_some]
 exact vals_get hi
theorem store_at {b i lo : Nat} {t : TypeId} {a : α} (hob : h[b]? = some (O.row t l)) (hlo : lo ≤ b) (hi : i < l.length) : storeT (some 1) h lo (O.e a) (at_ b l i) = some (h.set b (O.row t (l.set i a))) := by
 unfold at_
 rw [store_ptr, e_cellsOf, Option.bind_some, if_pos (show 1 = [O.e a].length from rfl)]
 have hob' : h[b]? = some (.cells t (O.vals l) 1) := hob
 unfold wrN
 show (match h[b]? with | some (.cells t c g) => _ | _ => none) = _
 rw [hob']
 show (if _ then _ else none) = _
 rw [if_pos ⟨hlo, by unfold stampOk; rw [vals_len]; simp, by simp, by rw [vals_len]; simp; omega⟩]
 show some (h.set b (.cells t (splice (O.vals l) i [O.e a]) 1)) = _
 rw [splice_one (by rw [vals_len]; exact hi), vals_put]; rfl
theorem reify_part {b n d : Nat} {t : TypeId} (hob : h[b]? = some (O.row t l)) (hn : n ≤ l.length) (hs : szOf P t = some 1) (ha : aggT P t = some false) : reify P (d + 1) h (part b n l) = some (lst false (O.vals (l.take n))) := by
 unfold part
 rw [reify_slice]
 by_cases h0 : n = 0
 ·subst h0; rfl
 ·rw [if_neg h0]
  show reifyS P d h h[b]? _ _ = _
  rw [hob]
  show reifyS P d h (some (.cells t (O.vals l) 1)) _ _ = _
  rw [reifyS_cells, hs, Option.bind_some, if_pos ⟨by unfold stampOk; rw [vals_len]; simp, Nat.one_pos, by rw [vals_len]; simp; omega⟩, List.drop_zero, Nat.mul_one, vals_take,
   reifyC_set (vals_set _), Option.bind_some, elems_one ha hs]; rfl
theorem reify_sl {b d : Nat} {t : TypeId} (hob : h[b]? = some (O.row t l)) (hs : szOf P t = some 1) (ha : aggT P t = some false) : reify P (d + 1) h (sl b l) = some (lst false (O.vals l)) := by
 have := reify_part (P := P) (d := d) hob (Nat.le_refl l.length) hs ha
 rw [List.take_length] at this
 exact this
theorem reifyR_sl {b : Nat} {t : TypeId} (hob : h[b]? = some (O.row t l)) (hs : szOf P t = some 1) (ha : aggT P t = some false) : reifyR P h (sl b l) = some (lst false (O.vals l)) := reify_sl hob hs ha
theorem frz_part {b n lo : Nat} {t : TypeId} (hob : h[b]? = some (O.row t l)) (hn : n ≤ l.length) (hs : szOf P t = some 1) (ha : aggT P t = some false) (hlo : lo ≤ b) :
  freezeV P depth lo h (part b n l) = some (lst false (O.vals (l.take n)), if n = 0 then h else h.set b .dead) := by
 have e : ((O.vals l).drop 0).take (n * 1) = O.vals (l.take n) := by rw [List.drop_zero, Nat.mul_one, vals_take]
 exact frz_row1 (a := ⟨b, 0, some l.length⟩) (t := t) (c := O.vals l) (g := 1) hob hs hlo (by unfold stampOk; rw [vals_len]; simp) Nat.one_pos (by rw [vals_len]; simp; omega) (by rw [e]; exact vals_set _)
  (by rw [e]; exact elems_one ha hs) (by rw [vals_len, List.length_take]; omega)
theorem frz_sl {b lo : Nat} {t : TypeId} (hob : h[b]? = some (O.row t l)) (hs : szOf P t = some 1) (ha : aggT P t = some false) (hlo : lo ≤ b) :
  freezeV P depth lo h (sl b l) = some (lst false (O.vals l), if l.length = 0 then h else h.set b .dead) := by
 have := frz_part (P := P) (lo := lo) hob (Nat.le_refl l.length) hs ha hlo
 rw [List.take_length] at this
 exact this
theorem part_take {b n m : Nat} {t : TypeId} {g : Option Bool} {e : TypeId} {k : IntKind} (hob : h[b]? = some (O.row t l)) (hm : m ≤ l.length) : sliceT (.sl e ⟨g, some 1⟩) h (part b n l) none (some (.int k (m : Int))) none = some (part b m l) := by
 have hf := fits_row hob rfl (off := 0)
 unfold part
 show (some 1).bind (fun s => if fitsRow h ⟨b, 0, some l.length⟩ s then _ else none) = _
 rw [Option.bind_some, if_pos hf]
 show (bound none l.length l.length).bind (fun mm => (bound (some (.int k (m : Int))) mm n).bind fun u => (bound none u 0).map fun l' => rowSl false ⟨b, 0, some l.length⟩ 1 mm u l') = _
 rw [bound_no, Option.bind_some, bound_nat hm, Option.bind_some, bound_no]
 show some (rowSl false ⟨b, 0, some l.length⟩ 1 l.length m 0) = _
 unfold rowSl
 rw [if_neg (by simp)]
 simp [shift]
theorem app {el : El} {lo b : Nat} {t : TypeId} {u : Value} (hel : el.size = 1) (hob : h[b]? = some (O.row t l)) (hu : sliceCells h 1 u = some (O.vals m, m.length)) (hlo : lo ≤ b) (hb : (l.length + m.length) * el.bytes ≤ 2 ^ 47) :
  appendT (some el) h lo false (sl b l) u = some (sl b (l ++ m), h.set b (O.row t (l ++ m))) := by
 have hob' : h[b]? = some (.cells t (O.vals l) 1) := hob
 unfold sl
 rw [append_slice, hel, hu]
 show appS el h lo false _ _ _ h[b]? _ = _
 by_cases hm : m.length = 0
 ·have : m = [] := List.eq_nil_of_length_eq_zero hm
  subst this
  have hf : fitsRow h ⟨b, 0, some l.length⟩ el.size = true := by rw [hel]; exact fits_row hob rfl
  unfold appS
  simp only [List.append_nil, List.length_nil, Nat.add_zero, Nat.le_refl, if_true, hf, Option.bind_some]
  congr 2
  refine (List.ext_getElem? fun i => ?_)
  rw [List.getElem?_set]
  split
  ·rename_i e; subst e
   split
   ·exact hob
   ·rename_i hlt; rw [List.getElem?_eq_none (by omega)]
  ·rfl
 ·rw [hob']
  refine (appS_grown (m := m.length) hm vals_len.symm rfl hel (by rw [vals_len]; omega) hlo hb).trans ?_
  unfold row
  rw [vals_app, List.length_append, vals_len, vals_len, List.length_append]
theorem app_room {el : El} {lo b i : Nat} {t : TypeId} {u : Value} (hel : el.size = 1) (hob : h[b]? = some (O.row t l)) (hu : sliceCells h 1 u = some (O.vals m, m.length)) (hm : m ≠ []) (hlo : lo ≤ b) (hi : i + m.length ≤ l.length) :
  appendT (some el) h lo false (part b i l) u = some (part b (i + m.length) (l.take i ++ m ++ l.drop (i + m.length)), h.set b (O.row t (l.take i ++ m ++ l.drop (i + m.length)))) := by
 have hob' : h[b]? = some (.cells t (O.vals l) 1) := hob
 have hm0 : m.length ≠ 0 := fun e => hm (List.eq_nil_of_length_eq_zero e)
 have hf : fitsRow h ⟨b, 0, some l.length⟩ el.size = true := by rw [hel]; exact fits_row hob rfl
 have hlen : (l.take i ++ m ++ l.drop (i + m.length)).length = l.length := by simp; omega
 unfold part
 rw [append_slice, hel, hu]
 show appS el h lo false _ _ _ h[b]? _ = _
 unfold appS
 simp only [Option.bind_some]
 rw [if_pos hi, if_neg hm0, hf]
 simp only [Bool.not_true, Bool.or_false, Bool.false_eq_true, if_false]
 unfold wrN
 show Option.map _ (match h[b]? with | some (.cells t c g) => _ | _ => none) = _
 rw [hob']
 show Option.map _ (if _ then _ else none) = _
 rw [if_pos ⟨hlo, by unfold shift stampOk; rw [vals_len]; simp, by rw [vals_len]; omega, by unfold shift; rw [vals_len, vals_len, hel]; simp; omega⟩]
 show some (_, h.set b (.cells t (splice (O.vals l) (0 + i * el.size) (O.vals m)) 1)) = _
 have e : splice (O.vals l) (0 + i * el.size) (O.vals m) = O.vals (l.take i ++ m ++ l.drop (i + m.length)) := by
  unfold splice
  rw [hel, Nat.zero_add, Nat.mul_one, vals_len, vals_take, vals_drop, vals_app, vals_app]
 rw [e, hlen]; rfl
theorem app_tree {el : El} {lo : Nat} {st : Bool} {u : Value} (hel : el.size = 1) (hu : sliceCells h 1 u = some (O.vals m, m.length)) (hm : m ≠ []) (hb : (l.length + m.length) * el.bytes ≤ 2 ^ 47) :
  appendT (some el) h lo st (lst true (O.vals l)) u = some (sl h.length (l ++ m), h ++ [O.row el.e (l ++ m)]) := by
 have hm0 : m.length ≠ 0 := fun e => hm (List.eq_nil_of_length_eq_zero e)
 rw [append_lst, hel, hu]
 simp only [Option.bind_some]
 rw [if_neg hm0, if_pos ⟨vals_all l, by rw [vals_len]; exact hb⟩, vals_len, vals_flat, ← vals_app, vals_len]
 unfold sl
 rw [List.length_append]
 rfl
theorem app_none {el : El} {lo : Nat} {st : Bool} {u : Value} (hel : el.size = 1) (hu : sliceCells h 1 u = some (O.vals ([] : List α), 0)) : appendT (some el) h lo st (lst true []) u = some (lst true [], h) := by
 rw [append_lst, hel, hu]; rfl
theorem lit {el : El} (a : α) (hel : el.size = 1) (hz : el.z.cells.size = 1) (hk : el.k = ⟨some false, some 1⟩) : buildSliceT (some el) false h 1 #[(0, O.e a)] = some (lst true (O.vals [a]), h) := by
 rw [build_one' (O.one a) hel hz, if_neg (by simp), if_pos (O.set a 7), hk]; rfl
end Enc
def intE : Enc Int := ⟨.int .i64, fun _ => rfl, fun _ _ => rfl, fun _ _ _ => rfl, fun _ _ => rfl⟩
def strE : Enc ByteArray := ⟨.string, fun _ => rfl, fun _ _ => rfl, fun _ _ _ => rfl, fun _ _ => rfl⟩
end Go.Proofs.YtgefjhjmkejjbaaDoor.Bm
namespace Go.Proofs.YtgefjhjmkejjbaaDoor.Co
variable {S : Type} [DecidableEq S]
structure Front (lt : S → S → Bool) (f : S → S) : Prop where
 inj : ∀ a b, f a = f b → a = b
 lt : ∀ a b, lt (f a) (f b) = lt a b
end Go.Proofs.YtgefjhjmkejjbaaDoor.Co
namespace Go.Proofs.YtgefjhjmkejjbaaDoor.Co
variable {S : Type} [DecidableEq S]
omit [DecidableEq S] in
theorem need_two (i1 i2 : Nat) : ∀ (r : List (S × Nat)) (o : Nat), r.length < i1 → r.length < i2 → (needF i1 r o = needF i2 r o ∧ needF i1 r o ≤ r.length) ∨ (needF i1 r o = i1 ∧ needF i2 r o = i2)
 | [], o, _, _ => by
  by_cases h0 : o = 0
  ·left; rw [h0, need_zero, need_zero]; exact ⟨rfl, Nat.zero_le _⟩
  ·right; exact ⟨need_nil h0, need_nil h0⟩
 | x :: r, o, h1, h2 => by
  rw [List.length_cons] at h1 h2 ⊢
  by_cases h0 : o = 0
  ·left; rw [h0, need_zero, need_zero]; exact ⟨rfl, Nat.zero_le _⟩
  rw [need_cons h0, need_cons h0]
  have a := need_two i1 i2 r o (by omega) (by omega)
  have b := need_two i1 i2 r (rem o x.2) (by omega) (by omega)
  by_cases e : rem o x.2 = o
  ·rw [if_pos e, if_pos e]
   rcases a with a | a
   ·left; exact ⟨a.1, by omega⟩
   ·right; exact a
  ·rw [if_neg e, if_neg e]
   rcases a with a | a <;> rcases b with b | b
   ·left; omega
   ·left; omega
   ·left; omega
   ·right; omega
omit [DecidableEq S] in
theorem least_two {i1 i2 : Nat} : ∀ {r : List (S × Nat)} {o : Nat}, r.length < i1 → r.length < i2 → leastF i1 r o = leastF i2 r o
 | [], _, _, _ => rfl
 | x :: r, o, h1, h2 => by
  have q1 : r.length < i1 := by rw [List.length_cons] at h1; omega
  have q2 : r.length < i2 := by rw [List.length_cons] at h2; omega
  rw [least_cons, least_cons, least_two (r := r) (o := o) q1 q2, least_two (r := r) (o := rem o x.2) q1 q2]
  have a := need_two i1 i2 (x :: r) o h1 h2
  have b := need_two i1 i2 r (rem o x.2) q1 q2
  have c1 := need_inf i1 (x :: r) o
  have c2 := need_inf i2 (x :: r) o
  rw [List.length_cons] at a h1 h2
  have e : (needF i1 (x :: r) o = 1 + needF i1 r (rem o x.2)) ↔ (needF i2 (x :: r) o = 1 + needF i2 r (rem o x.2)) := by
   rcases a with a | a <;> rcases b with b | b <;> omega
  by_cases p : rem o x.2 ≠ o ∧ needF i1 (x :: r) o = 1 + needF i1 r (rem o x.2)
  ·rw [if_pos p, if_pos ⟨p.1, e.1 p.2⟩]
  ·rw [if_neg p, if_neg fun q => p ⟨q.1, e.2 q.2⟩]
omit [DecidableEq S] in
theorem least_end {inf : Nat} : ∀ {r : List (S × Nat)}, leastF inf r 0 = []
 | [] => rfl
 | x :: r => by
  rw [least_cons, if_neg, least_end]
  rintro ⟨h, _⟩
  exact h (rem_zero _)
omit [DecidableEq S] in
theorem need_row (x : S × Nat) (r : List (S × Nat)) {o : Nat} (h : o ≠ 0) : needF 99 (x :: r) o = min (needF 99 r o) (1 + needF 99 r (rem o x.2)) := by
 rw [need_cons h]
 split
 ·rename_i e; rw [e]; omega
 ·rfl
def hitB (a c : List S) : Bool := a.any fun s => decide (s ∈ c)
def opens (l : List (List S)) (o : Nat) : List Nat := (List.range l.length).filter o.testBit
def leftF (l : List (List S)) (c : List S) : Nat := rems (allF l) (c.map (maskF l))
theorem left_nil (l : List (List S)) : leftF l [] = allF l := rfl
theorem left_snoc (l : List (List S)) (c : List S) (s : S) : leftF l (c ++ [s]) = rem (leftF l c) (maskF l s) := by
 unfold leftF
 rw [List.map_append, rems_append]; rfl
theorem left_bit (l : List (List S)) (c : List S) {i : Nat} (hi : i < l.length) : (leftF l c).testBit i = !hitB l[i] c := by
 unfold leftF
 rw [rems_bit, all_bit, decide_eq_true hi, Bool.true_and]
 congr 1
 unfold hitB
 rw [List.any_map, Bool.eq_iff_iff, List.any_eq_true, List.any_eq_true]
 constructor
 ·rintro ⟨s, hs, hb⟩
  have hb : (maskF l s).testBit i = true := hb
  rw [mask_bit, decide_eq_true_eq] at hb
  obtain ⟨a, ha, h2⟩ := hb
  rw [List.getElem?_eq_getElem hi] at ha
  obtain rfl := Option.some.inj ha
  exact ⟨s, h2, decide_eq_true hs⟩
 ·rintro ⟨s, hs, hc⟩
  refine ⟨s, of_decide_eq_true hc, ?_⟩
  show (maskF l s).testBit i = true
  rw [mask_bit, decide_eq_true_eq]
  exact ⟨_, List.getElem?_eq_getElem hi, hs⟩
theorem left_within (l : List (List S)) (c : List S) : Within l (leftF l c) := fun k hk => by
 unfold leftF at hk
 rw [rems_bit, all_bit, Bool.and_eq_true, decide_eq_true_eq] at hk
 exact hk.1
omit [DecidableEq S] in
theorem opens_mem {l : List (List S)} {o i : Nat} (hw : Within l o) : i ∈ opens l o ↔ o.testBit i = true := by
 unfold opens
 rw [List.mem_filter, List.mem_range]
 exact ⟨fun h => h.2, fun h => ⟨hw i h, h⟩⟩
def openR (l : List (List S)) (c : List S) : List Nat := (List.range l.length).filter fun i => !hitB (l.getD i []) c
theorem openR_eq (l : List (List S)) (c : List S) : openR l c = opens l (leftF l c) := by
 unfold openR opens
 refine List.filter_congr fun i hi => ?_
 have hi := List.mem_range.1 hi
 rw [left_bit l c hi, List.getD_eq_getElem?_getD, List.getElem?_eq_getElem hi]; rfl
theorem hit_apart (l : List (List S)) {i k : Nat} (hk : k < l.length) : (!hitB (l.getD i []) (l.getD k [])) = apartF l i k := by
 unfold hitB apartF
 congr 1
 rw [Bool.eq_iff_iff, List.any_eq_true, List.any_eq_true]
 have e : l.getD k [] = l[k] := by rw [List.getD_eq_getElem?_getD, List.getElem?_eq_getElem hk]; rfl
 rw [e]
 constructor
 ·rintro ⟨s, hs, h⟩
  exact ⟨s, hs, by rw [mask_bit, decide_eq_true_eq]; exact ⟨_, List.getElem?_eq_getElem hk, of_decide_eq_true h⟩⟩
 ·rintro ⟨s, hs, h⟩
  rw [mask_bit, decide_eq_true_eq, List.getElem?_eq_getElem hk] at h
  obtain ⟨a, ha, h2⟩ := h
  obtain rfl := Option.some.inj ha
  exact ⟨s, hs, decide_eq_true h2⟩
def apartR (l : List (List S)) (i : Nat) (others : List Nat) : Bool := others.all fun k => !hitB (l.getD i []) (l.getD k [])
theorem apartR_eq (l : List (List S)) (i : Nat) {others : List Nat} (h : ∀ k ∈ others, k < l.length) : apartR l i others = others.all (apartF l i) := by
 unfold apartR
 rw [Bool.eq_iff_iff, List.all_eq_true, List.all_eq_true]
 constructor
 ·intro q k hk; rw [← hit_apart l (h k hk)]; exact q k hk
 ·intro q k hk; rw [hit_apart l (h k hk)]; exact q k hk
def packR (l : List (List S)) (n : Nat) : List Nat → List Nat → List Nat
 | [], got => if got.length = n then got else []
 | i :: r, got => if got.length = n then got else if apartR l i got = true then (if packR l n r (got ++ [i]) = [] then packR l n r got else packR l n r (got ++ [i])) else packR l n r got
theorem packR_nil (l : List (List S)) (n : Nat) (got : List Nat) : packR l n [] got = if got.length = n then got else [] := rfl
theorem packR_cons (l : List (List S)) (n i : Nat) (r got : List Nat) : packR l n (i :: r) got = if got.length = n then got else if apartR l i got = true then (if packR l n r (got ++ [i]) = [] then packR l n r got else packR l n r (got ++ [i])) else packR l n r got := rfl
theorem pack_len {l : List (List S)} {o n : Nat} : ∀ {r out K : List Nat}, packF l o n r out = some K → K.length = n
 | [], out, K, h => by
  rw [packF_nil] at h
  split at h
  ·rename_i q; cases h; exact q
  ·cases h
 | i :: r, out, K, h => by
  rw [packF_cons] at h
  split at h
  ·rename_i q; cases h; exact q
  split at h
  ·cases hq : packF l o n r (out ++ [i]) with
   | some K' => rw [hq] at h; cases h; exact pack_len hq
   | none => rw [hq] at h; exact pack_len (show packF l o n r out = some K from h)
  ·exact pack_len h
theorem packR_eq (l : List (List S)) (o : Nat) {n : Nat} (hn : 0 < n) : ∀ (r got : List Nat), (∀ i ∈ r, i < l.length) → (∀ i ∈ got, i < l.length) → packR l n (r.filter o.testBit) got = (packF l o n r got).getD []
 | [], got, _, _ => by
  rw [List.filter_nil, packR_nil, packF_nil]
  split <;> rfl
 | i :: r, got, hr, hg => by
  have h1 := fun g (h : ∀ i ∈ g, i < l.length) => packR_eq l o hn r g (fun j hj => hr j (List.mem_cons_of_mem _ hj)) h
  have hi := hr i List.mem_cons_self
  rw [packF_cons]
  by_cases q : got.length = n
  ·rw [if_pos q]
   cases hb : (i :: r).filter o.testBit with
   | nil => rw [packR_nil, if_pos q]; rfl
   | cons a b => rw [packR_cons, if_pos q]; rfl
  rw [if_neg q]
  rw [List.filter_cons]
  cases hb : o.testBit i
  ·rw [Bool.false_and, if_neg (by decide), if_neg (by decide), h1 got hg]
  ·rw [Bool.true_and, if_pos rfl, packR_cons, if_neg q, apartR_eq l i hg]
   split
   ·rw [h1 got hg, h1 (got ++ [i]) (fun j hj => by
     rcases List.mem_append.1 hj with hj | hj
     ·exact hg j hj
     ·rw [List.mem_singleton.1 hj]; exact hi)]
    cases hq : packF l o n r (got ++ [i]) with
    | some K =>
     have := pack_len hq
     have hK : K ≠ [] := fun e => by rw [e] at this; simp at this; omega
     show (if K = [] then _ else K) = K
     rw [if_neg hK]
    | none =>
     show (if ([] : List Nat) = [] then _ else _) = _
     rw [if_pos rfl]; rfl
   ·exact h1 got hg
def withinR (l : List (List S)) (op : List Nat) (x y : S) : Bool := op.all fun i => !decide (x ∈ l.getD i []) || decide (y ∈ l.getD i [])
theorem mask_at (l : List (List S)) (x : S) (i : Nat) : (maskF l x).testBit i = decide (x ∈ l.getD i []) := by
 rw [mask_bit, List.getD_eq_getElem?_getD]
 cases h : l[i]? with
 | none => simp
 | some a => simp
theorem within_eq (l : List (List S)) {o : Nat} (hw : Within l o) (x y : S) : withinR l (opens l o) x y = decide (rem (maskF l x &&& o) (maskF l y) = 0) := by
 rw [Bool.eq_iff_iff, decide_eq_true_eq]
 unfold withinR
 rw [List.all_eq_true]
 constructor
 ·intro h
  refine Nat.eq_of_testBit_eq fun k => ?_
  rw [rem_bit, Nat.testBit_and, Nat.zero_testBit]
  cases hk : o.testBit k
  ·simp
  ·have := h k ((opens_mem hw).2 hk)
   rw [← mask_at, ← mask_at] at this
   cases h1 : (maskF l x).testBit k
   ·rfl
   ·rw [h1] at this
    simp only [Bool.not_true, Bool.false_or] at this
    rw [this]; rfl
 ·intro h k hk
  have hk := (opens_mem hw).1 hk
  rw [← mask_at, ← mask_at]
  have := rem_bit (maskF l x &&& o) (maskF l y) k
  rw [h, Nat.zero_testBit, Nat.testBit_and, hk, Bool.and_true] at this
  cases h1 : (maskF l x).testBit k
  ·rfl
  ·rw [h1] at this
   cases h2 : (maskF l y).testBit k
   ·rw [h2] at this; cases this
   ·rfl
def freeR (l : List (List S)) (op : List Nat) (a : List S) (i : Nat) : Bool := (List.range a.length).all fun k => decide (k = i) || !((match a[i]?, a[k]? with | some x, some y => withinR l op x y | _, _ => false) && (decide (k < i) || !(match a[k]?, a[i]? with | some x, some y => withinR l op x y | _, _ => false)))
def choicesR (l : List (List S)) (op : List Nat) (a : List S) : List Nat := (List.range a.length).filter (freeR l op a)
theorem rem_and (p q o : Nat) : rem (p &&& o) (q &&& o) = 0 ↔ rem (p &&& o) q = 0 := by
 have e : rem (p &&& o) (q &&& o) = rem (p &&& o) q := Nat.eq_of_testBit_eq fun k => by
  rw [rem_bit, rem_bit, Nat.testBit_and, Nat.testBit_and]
  cases p.testBit k <;> cases q.testBit k <;> cases o.testBit k <;> rfl
 rw [e]
theorem rem_anti {p q : Nat} (h1 : rem p q = 0) : rem q p = 0 ↔ q = p := by
 constructor
 ·intro h2
  exact Nat.le_antisymm (sub_le h2) (sub_le h1)
 ·rintro rfl; exact h1
theorem choicesR_eq (l : List (List S)) {o : Nat} (hw : Within l o) (a : List S) : choicesR l (opens l o) a = choicesF l o a := by
 unfold choicesR choicesF
 refine List.filter_congr fun i hi => ?_
 have hi := List.mem_range.1 hi
 unfold freeR freeF
 rw [Bool.eq_iff_iff, List.all_eq_true, List.all_eq_true]
 refine forall_congr' fun k => forall_congr' fun hk => ?_
 have hk := List.mem_range.1 hk
 unfold inF
 rw [List.getElem?_eq_getElem hi, List.getElem?_eq_getElem hk]
 dsimp only
 rw [within_eq l hw, within_eq l hw, ← Bool.eq_iff_iff]
 congr 1
 congr 1
 have e1 := rem_and (maskF l a[i]) (maskF l a[k]) o
 have e2 := rem_and (maskF l a[k]) (maskF l a[i]) o
 by_cases h : rem (maskF l a[i] &&& o) (maskF l a[k]) = 0
 ·have h' := e1.2 h
  rw [decide_eq_true h, decide_eq_true h', Bool.true_and, Bool.true_and, Bool.or_comm]
  congr 1
  have h3 := rem_anti h'
  rw [Bool.eq_iff_iff, Bool.not_eq_true', decide_eq_false_iff_not, decide_eq_true_eq, ← e2, h3]
 ·rw [decide_eq_false h, decide_eq_false fun q => h (e1.1 q), Bool.false_and, Bool.false_and]
def proveR (l : List (List S)) : Nat → List S → List (List Int)
 | 0, _ => [[0]]
 | f + 1, c =>
  if packR l (f + 1) (openR l c) [] ≠ [] ∨ openR l c = [] ∨ f = 0 then [0 :: (packR l (f + 1) (openR l c) []).map Int.ofNat]
  else (1 :: (((openR l c).headD 0 : Nat) : Int) :: (choicesR l (openR l c) (l.getD ((openR l c).headD 0) [])).map Int.ofNat) ::
   (choicesR l (openR l c) (l.getD ((openR l c).headD 0) [])).flatMap fun i => match (l.getD ((openR l c).headD 0) [])[i]? with | some s => proveR l f (c ++ [s]) | none => []
omit [DecidableEq S] in
theorem first_open (l : List (List S)) (o : Nat) : ∀ (n i : Nat), i + n = l.length → (∃ k, i ≤ k ∧ k < i + n ∧ o.testBit k = true) → ((List.range' i n).filter o.testBit).headD 0 = firstF o n i
 | 0, i, _, h => by obtain ⟨k, h1, h2, _⟩ := h; omega
 | n + 1, i, hn, h => by
  rw [List.range'_succ, List.filter_cons]
  unfold firstF
  split
  ·rename_i q; rfl
  ·rename_i q
   obtain ⟨k, h1, h2, h3⟩ := h
   have hne : k ≠ i := fun e => q (e ▸ h3)
   exact first_open l o n (i + 1) (by omega) ⟨k, by omega, by omega, h3⟩
theorem proveR_eq (l : List (List S)) (hne : ∀ a ∈ l, a ≠ []) : ∀ (f : Nat) (c : List S), 0 < f → (∀ C : List S, CovS l (leftF l c) C → f ≤ C.length) → proveR l f c = proveF l f (leftF l c)
 | 0, c, h, _ => by omega
 | f + 1, c, _, hc => by
  have hw := left_within l c
  have ih := fun c' h1 h2 => proveR_eq l hne f c' h1 h2
  unfold proveR proveF
  rw [openR_eq]
  have hl := left_snoc l c
  generalize leftF l c = o at *
  have hop : ∃ k, o.testBit k = true := by
   apply Classical.byContradiction
   intro h
   have := hc [] (covS_iff.2 fun k hk => absurd ⟨k, hk⟩ h)
   simp at this
  obtain ⟨k, hk⟩ := hop
  have hoe : opens l o ≠ [] := fun e => by
   have := (opens_mem hw).2 hk
   rw [e] at this; cases this
  have e1 : packR l (f + 1) (opens l o) [] = (packF l o (f + 1) (List.range l.length) []).getD [] := packR_eq l o (by omega) _ [] (fun i hi => List.mem_range.1 hi) fun i hi => by cases hi
  have e2 : (opens l o).headD 0 = firstF o l.length 0 := by
   have := first_open l o l.length 0 (by omega) ⟨k, by omega, by have := hw k hk; omega, hk⟩
   rw [← List.range_eq_range'] at this
   exact this
  rw [e1, e2]
  cases hp : packF l o (f + 1) (List.range l.length) [] with
  | some K =>
   have := pack_len hp
   have hK : K ≠ [] := fun e => by rw [e] at this; simp at this
   rw [if_pos (.inl hK)]; rfl
  | none =>
   have hf0 : f ≠ 0 := by
    rintro rfl
    obtain ⟨K, hK⟩ := packF_one l o (List.range l.length) ⟨k, List.mem_range.2 (hw k hk), hk⟩
    rw [hK] at hp; cases hp
   rw [if_neg (by
    rintro (h | h | h)
    ·exact h rfl
    ·exact hoe h
    ·exact hf0 h), choicesR_eq l hw]
   dsimp only
   congr 1
   generalize l.getD (firstF o l.length 0) [] = a
   unfold List.flatMap
   congr 1
   refine List.map_congr_left fun i hi => ?_
   have hil := choices_lt hi
   rw [List.getElem?_eq_getElem hil]
   dsimp only
   rw [ih (c ++ [a[i]]) (Nat.pos_of_ne_zero hf0) (fun C hC => by
    rw [hl] at hC
    have := hc (a[i] :: C) hC
    rw [List.length_cons] at this
    omega), hl]
   rfl
def disjR (l : List (List S)) (op : List Nat) : List Nat → List Nat → Bool
 | _, [] => true
 | acc, k :: r => decide (k ∈ op) && (apartR l k acc && disjR l op (acc ++ [k]) r)
theorem disjR_eq (l : List (List S)) {o : Nat} (hw : Within l o) : ∀ (r acc : List Nat), (∀ k ∈ acc, k < l.length) → disjR l (opens l o) acc r = packedF l o acc r
 | [], acc, _ => rfl
 | k :: r, acc, h => by
  show (decide (k ∈ opens l o) && (apartR l k acc && disjR l (opens l o) (acc ++ [k]) r)) = (o.testBit k && (acc.all (apartF l k) && packedF l o (acc ++ [k]) r))
  have e : decide (k ∈ opens l o) = o.testBit k := by rw [Bool.eq_iff_iff, decide_eq_true_eq, opens_mem hw]
  rw [e, apartR_eq l k h]
  cases hb : o.testBit k
  ·rfl
  ·rw [disjR_eq l hw r (acc ++ [k]) fun j hj => by
    rcases List.mem_append.1 hj with hj | hj
    ·exact h j hj
    ·rw [List.mem_singleton.1 hj]; exact hw k hb]
def coversR (l : List (List S)) (op : List Nat) (a : List S) (n : List Nat) : Bool := a.all fun x => n.any fun k => match a[k]? with | some y => withinR l op x y | none => false
theorem coversR_eq (l : List (List S)) {o : Nat} (hw : Within l o) (a : List S) {n : List Nat} (hn : ∀ k ∈ n, k < a.length) : coversR l (opens l o) a n = replF l o a n := by
 unfold coversR replF
 rw [Bool.eq_iff_iff, List.all_eq_true, List.all_eq_true]
 refine forall_congr' fun x => forall_congr' fun hx => ?_
 rw [List.any_eq_true, List.any_eq_true]
 refine exists_congr fun k => and_congr_right fun hk => ?_
 have := hn k hk
 rw [List.getD_eq_getElem?_getD, List.getElem?_eq_getElem this]
 dsimp only
 rw [within_eq l hw]; rfl
end Go.Proofs.YtgefjhjmkejjbaaDoor.Co
namespace Go.Proofs.YtgefjhjmkejjbaaDoor.Co
variable {S : Type} [DecidableEq S]
def ascB {α : Type} (lt : α → α → Bool) : List α → Bool
 | a :: b :: l => lt a b && ascB lt (b :: l)
 | _ => true
theorem idx_asc : ∀ (n : Nat) (l : List Int), idxF n l = (ascB (fun a b : Int => decide (a < b)) l && !l.any fun i => decide (i < 0) || decide ((n : Int) ≤ i))
 | _, [] => rfl
 | n, [k] => by
  show (decide (0 ≤ k) && decide (k < (n : Int))) = (true && !((decide (k < 0) || decide ((n : Int) ≤ k)) || false))
  rw [Bool.or_false, Bool.true_and, Bool.eq_iff_iff]
  simp
 | n, k :: j :: r => by
  have ih := idx_asc n (j :: r)
  show (decide (0 ≤ k) && (decide (k < (n : Int)) && (decide (k < j) && idxF n (j :: r)))) = _
  rw [ih]
  show _ = ((decide (k < j) && ascB _ (j :: r)) && !((decide (k < 0) || decide ((n : Int) ≤ k)) || (j :: r).any _))
  have e1 : decide (0 ≤ k) = !decide (k < 0) := by rw [Bool.eq_iff_iff]; simp
  have e2 : decide (k < (n : Int)) = !decide ((n : Int) ≤ k) := by rw [Bool.eq_iff_iff]; simp
  rw [e1, e2]
  generalize ascB (fun a b : Int => decide (a < b)) (j :: r) = p
  generalize ((j :: r).any fun i => decide (i < 0) || decide ((n : Int) ≤ i)) = q
  cases decide (k < 0) <;> cases decide ((n : Int) ≤ k) <;> cases decide (k < j) <;> cases p <;> cases q <;> rfl
def badA (lt : S → S → Bool) (l : List (List S)) : Bool := decide (l.length < 1) || decide (8 < l.length) || l.any fun a => decide (12 < a.length) || !ascB lt a
def errF (lt : S → S → Bool) (arg none_ : Int) (l : List (List S)) : Int := if badA lt l = true then arg else if (l.any fun a => a.isEmpty) = true then none_ else 0
structure Good (lt : S → S → Bool) (l : List (List S)) : Prop where
 pos : l ≠ []
 few : l.length ≤ 8
 small : ∀ a ∈ l, a.length ≤ 12
 asc : ∀ a ∈ l, ascB lt a = true
 ne : ∀ a ∈ l, a ≠ []
omit [DecidableEq S] in
theorem err_good {lt : S → S → Bool} {arg none_ : Int} (h1 : arg ≠ 0) (h2 : none_ ≠ 0) {l : List (List S)} : errF lt arg none_ l = 0 ↔ Good lt l := by
 unfold errF badA
 constructor
 ·intro h
  split at h
  ·exact absurd h h1
  rename_i q
  split at h
  ·exact absurd h h2
  rename_i q2
  simp only [Bool.or_eq_true, decide_eq_true_eq, not_or, Bool.not_eq_true, List.any_eq_false, Bool.not_eq_true'] at q q2
  obtain ⟨⟨q1, q3⟩, q4⟩ := q
  refine ⟨fun e => by rw [e] at q1; simp at q1, by omega, fun a ha => ?_, fun a ha => ?_, fun a ha e => ?_⟩
  ·have := (q4 a ha).1; omega
  ·have := (q4 a ha).2
   simpa using this
  ·have := q2 a ha
   rw [e] at this; simp at this
 ·intro g
  have hl := List.length_pos_iff.2 g.pos
  have hf := g.few
  rw [if_neg, if_neg]
  ·intro h
   obtain ⟨a, ha, h⟩ := List.any_eq_true.1 h
   exact g.ne a ha (List.isEmpty_iff.1 h)
  ·simp only [Bool.or_eq_true, decide_eq_true_eq, List.any_eq_true, Bool.not_eq_true']
   rintro ((h | h) | ⟨a, ha, h | h⟩)
   ·omega
   ·omega
   ·have := g.small a ha; omega
   ·rw [g.asc a ha] at h; cases h
theorem fold_len {lt : S → S → Bool} : ∀ (a out : List S), (a.foldl (fun o s => insF lt s o) out).length ≤ a.length + out.length
 | [], _ => by simp
 | s :: a, out => by
  have h1 := fold_len (lt := lt) a (insF lt s out)
  have h2 : ∀ l : List S, (insF lt s l).length ≤ l.length + 1 := fun l => by
   induction l with
   | nil => exact Nat.le_refl _
   | cons x l ih =>
    unfold insF
    split
    ·rw [List.length_cons, List.length_cons]; omega
    ·split
     ·exact Nat.le_succ _
     ·exact Nat.le_refl _
  have := h2 out
  rw [List.foldl_cons, List.length_cons]
  omega
theorem names_len {lt : S → S → Bool} : ∀ (l : List (List S)) (out : List S) (m : Nat), (∀ a ∈ l, a.length ≤ m) → (l.foldl (fun out a => a.foldl (fun o s => insF lt s o) out) out).length ≤ l.length * m + out.length
 | [], _, _, _ => by simp
 | a :: l, out, m, h => by
  have h1 := names_len (lt := lt) l (a.foldl (fun o s => insF lt s o) out) m fun x hx => h x (List.mem_cons_of_mem _ hx)
  have h2 := fold_len (lt := lt) a out
  have h3 := h a List.mem_cons_self
  rw [List.foldl_cons, List.length_cons, Nat.add_mul, Nat.one_mul]
  omega
theorem good_names {lt : S → S → Bool} {l : List (List S)} (g : Good lt l) : (namesF lt l).length ≤ 96 := by
 have := names_len (lt := lt) l [] 12 g.small
 have hf := g.few
 unfold namesF
 rw [List.length_nil] at this
 omega
def pairs99 (lt : S → S → Bool) (l : List (List S)) : List S := (leastF 99 (pairsF lt l) (allF l)).map (·.1)
theorem core99 {lt : S → S → Bool} {l : List (List S)} (g : Good lt l) : pairs99 lt l = coreF lt l := by
 have hn := good_names g
 unfold pairs99 coreF
 have hl : (pairsF lt l).length = (namesF lt l).length := List.length_map _
 rw [least_two (i1 := 99) (i2 := infF lt l) (by omega) (by unfold infF; omega)]
theorem proveR_core {lt : S → S → Bool} (ho : Ord lt) {l : List (List S)} (g : Good lt l) : proveR l (coreF lt l).length [] = proveF l (coreF lt l).length (allF l) := by
 have k := core_is ho g.ne
 have hpos : 0 < (coreF lt l).length := by
  obtain ⟨a, r, e⟩ := List.exists_cons_of_ne_nil g.pos
  obtain ⟨s, _, hs⟩ := hits_iff.1 k.hits a (by rw [e]; exact List.mem_cons_self)
  exact List.length_pos_of_mem hs
 exact proveR_eq l g.ne _ [] hpos fun C hC => k.least C (hits_cov.2 hC)
end Go.Proofs.YtgefjhjmkejjbaaDoor.Co
namespace Go.Proofs.YtgefjhjmkejjbaaDoor.Bm
open Go Go.RowKit
open Co (ltB ascB)
def listE : Enc (Option Bool × List ByteArray) := ⟨fun p => strE.o p.1 p.2, fun _ => Enc.o_one, fun _ _ => Enc.o_set, fun _ _ _ => Enc.o_bel, fun _ _ => Enc.o_fits⟩
def rowE : Enc (Option Bool × List Int) := ⟨fun p => intE.o p.1 p.2, fun _ => Enc.o_one, fun _ _ => Enc.o_set, fun _ _ _ => Enc.o_bel, fun _ _ => Enc.o_fits⟩
theorem bin_geq_str {P : Program} {t : TypeId} {s r : ByteArray} : aBin P .geq t (.string s) (.string r) = some (.bool (!ltB s r)) := by simp [aBin, aStringOp, toList_data, ltB]
theorem bin_gtr_str {P : Program} {t : TypeId} {s r : ByteArray} : aBin P .gtr t (.string s) (.string r) = some (.bool (ltB r s)) := by
 have e : aBin P .gtr t (.string s) (.string r) = some (.bool (!(ltB s r || decide (s = r)))) := by
  have e2 : ltB s r = Op.bytesLess s.toList r.toList := by rw [toList_data, toList_data]; rfl
  rw [e2]
  simp only [aBin, aStringOp, toList_eq]
 rw [e]
 congr 2
 rcases Co.ordB.tri s r with h | rfl | h
 ·rw [h, Co.ordB.asym _ _ h]; rfl
 ·rw [Co.ordB.irr]; simp
 ·rw [h, Co.ordB.asym _ _ h]
  have : s ≠ r := fun e => by rw [e, Co.ordB.irr] at h; cases h
  simp [this]
theorem ascS_spec (k : Option Bool) (l : List ByteArray) (hk : Enc.Ok k l) (hl : l.length ≤ 1000000) : pureCall E.P (L E) 35 [strE.o k l] = some (.bool (ascB ltB l)) := by
 have ll : ∀ h, lenT .sl h (strE.o k l) = some (.int .i64 l.length) := fun h => Enc.o_len hk
 have il : ∀ (i : Nat) (hi : i < l.length), indexAddrT (.sl 9 ⟨some false, some 1⟩) (strE.o k l) (.int .i64 (i : Int)) = some (cptr (.string l[i])) := fun i hi => Enc.index_o hk hi
 generalize strE.o k l = VL at *
 rw [pureCall_fn F35 rfl]
 simp -implicitDefEqProofs [r35, p35]
 rw [LL_for (γ := Unit) (l.drop 1) () (fun i _ => [(3, .int .i64 ((i : Int) + 1))]) (fun _ _ => []) (fun i rest _ => if ascB ltB (l.drop i) then (.exit 0, [(3, undef)], []) else (.ret, [(2, .bool false), (3, undef)], [])) (fun _ _ => True) (by rw [List.length_drop]; omega) trivial]
 ·by_cases q : ascB ltB l = true
  ·simp -implicitDefEqProofs [k35_2, q]
  ·simp -implicitDefEqProofs [k35_2, q]
 ·simp -implicitDefEqProofs [k35_2]
 ·rfl
 ·intro nx i c hi _
  rw [List.length_drop] at hi
  have h1 : ¬ ((i : Int) + 1 < l.length) := by omega
  have e : ascB ltB (l.drop i) = true := by
   have : (l.drop i).length ≤ 1 := by rw [List.length_drop]; omega
   match hd : l.drop i, this with
   | [], _ => rfl
   | [_], _ => rfl
   | _ :: _ :: _, h => simp at h
  simp -implicitDefEqProofs [r35_2, k35_2, ll, h1, e, trim_le]
 ·intro nx i v rest c hi hv hd hw _ ih
  have ih := ih () trivial
  rw [List.length_drop] at hi
  have h1 : ((i : Int) + 1 < l.length) := by omega
  have x1 := il i (by omega)
  have x2 := il (i + 1) (by omega)
  have w1 : IntKind.i64.wrap (i : Int) = (i : Int) := wrap64 (by omega) (by omega)
  have w2 : IntKind.i64.wrap ((i : Int) + 1 + 1) = (i : Int) + 1 + 1 := wrap64 (by omega) (by omega)
  have ec : (((i + 1 : Nat) : Int)) = (i : Int) + 1 := by omega
  rw [ec] at ih x2
  have e : ascB ltB (l.drop i) = (ltB l[i] l[i + 1] && ascB ltB (l.drop (i + 1))) := by
   rw [List.drop_eq_getElem_cons (show i < l.length by omega), List.drop_eq_getElem_cons (show i + 1 < l.length by omega)]
   rfl
  rw [e]
  simp -implicitDefEqProofs [k35_2] at ih
  generalize l[i] = a at *
  generalize l[i + 1] = b at *
  by_cases q : ltB a b = true
  ·simp -implicitDefEqProofs [r35_2, k35_2, ll, h1, x1, x2, w1, w2, q, bin_geq_str, trim_le, ih]
  ·simp -implicitDefEqProofs [r35_2, k35_2, ll, h1, x1, x2, w1, q, bin_geq_str, trim_le]
end Go.Proofs.YtgefjhjmkejjbaaDoor.Bm
namespace Go.Proofs.YtgefjhjmkejjbaaDoor.Bm
open Go Go.RowKit
open Co (ltB)
def idxB {α : Type} (f : α → Bool) : List α → Int → Int
 | [], _ => -1
 | a :: l, i => if f a = true then i else idxB f l (i + 1)
theorem idxB_cons {α : Type} (f : α → Bool) (a : α) (l : List α) (i : Int) : idxB f (a :: l) i = if f a = true then i else idxB f l (i + 1) := rfl
theorem idxB_any {α : Type} (f : α → Bool) : ∀ (l : List α) (i : Int), 0 ≤ i → (l.any f = true → i ≤ idxB f l i) ∧ (l.any f = false → idxB f l i = -1)
 | [], _, _ => ⟨fun h => absurd h (by simp), fun _ => rfl⟩
 | a :: l, i, hi => by
  rw [idxB_cons, List.any_cons]
  have ih := idxB_any f l (i + 1) (by omega)
  by_cases h : f a = true
  ·rw [if_pos h, h]; exact ⟨fun _ => Int.le_refl _, fun q => absurd q (by simp)⟩
  ·rw [if_neg h, Bool.eq_false_iff.2 h, Bool.false_or]
   exact ⟨fun q => by have := ih.1 q; omega, ih.2⟩
theorem idxB_pos {α : Type} (f : α → Bool) (l : List α) : decide (0 ≤ idxB f l 0) = l.any f := by
 have h := idxB_any f l 0 (Int.le_refl _)
 cases q : l.any f
 ·rw [h.2 q]; rfl
 ·exact decide_eq_true (h.1 q)
def Rd (f : FuncId) (args : List Value) (h : Heap) (v : Value) : Prop := ∀ lo st, retCall E (L E) lo st f args h = some (v, h)
def Cl (F : Value) (args : List Value) (h : Heap) (v : Value) : Prop := ∀ lo st, aCall E (L E) lo st F args h = some (v, h)
theorem Cl.of {f : FuncId} {x y : Array Value} {args : List Value} {h : Heap} {v : Value} (k : Rd f (x.toList ++ args ++ y.toList) h v) : Cl (.func (.func f) x y) args h v := fun lo st => k lo st
theorem indexFS (k : Option Bool) (l : List ByteArray) (hk : Enc.Ok k l) (hl : l.length ≤ 1000000) (F : Value) (p : ByteArray → Bool) (h : Heap) (hF : ∀ z ∈ l, Cl F [.string z] h (.bool (p z))) : Rd 50 [strE.o k l, F] h (.int .i64 (idxB p l 0)) := by
 intro lo st
 have ll : ∀ h, lenT .sl h (strE.o k l) = some (.int .i64 l.length) := fun h => Enc.o_len hk
 have il : ∀ (i : Nat) (hi : i < l.length), indexAddrT (.sl 9 ⟨some false, some 1⟩) (strE.o k l) (.int .i64 (i : Int)) = some (cptr (.string l[i])) := fun i hi => Enc.index_o hk hi
 generalize strE.o k l = VL at *
 rw [ret5 m50, L_fn F50 rfl]
 simp -implicitDefEqProofs [r50, p50, ll]
 rw [LL_for (γ := Unit) l () (fun i _ => [(8, .int .i64 i)]) (fun _ _ => h) (fun i rest _ => if idxB p rest i = -1 then (.exit 0, [(8, undef)], h) else (.ret, [(4, .int .i64 (idxB p rest i)), (8, undef)], h)) (fun _ _ => True) (by omega) trivial]
 ·rw [show ((0 : Nat) : Int) = 0 from rfl]
  by_cases q : idxB p l 0 = -1
  ·simp -implicitDefEqProofs [k50_2, q, trim_le, frz_set8]
  ·simp -implicitDefEqProofs [k50_2, q, trim_le, frz_set8]
 ·simp -implicitDefEqProofs [k50_2]
 ·rfl
 ·intro nx i c hi _
  have e : ∀ z, idxB p [] z = -1 := fun _ => rfl
  simp -implicitDefEqProofs [r50_2, k50_2, hi, e, trim_le]
 ·intro nx i v rest c hi hv hd hw _ ih
  have ih := ih () trivial
  have hi2 : ((i : Int) < l.length) := by omega
  have x1 := il i hi
  have cl := hF v (by rw [← hv]; exact List.getElem_mem hi)
  unfold Cl at cl
  rw [hv] at x1
  have e2 : (((i + 1 : Nat) : Int)) = (i : Int) + 1 := by omega
  rw [e2] at ih
  rw [idxB_cons]
  simp -implicitDefEqProofs [k50_2] at ih
  by_cases he : p v = true
  ·have hn : ¬ ((i : Int) = -1) := by omega
   rw [he] at cl
   simp -implicitDefEqProofs [r50_2, k50_2, hi2, x1, hn, cl, he, trim_le]
  ·have he2 : p v = false := by simpa using he
   rw [he2] at cl
   simp -implicitDefEqProofs [r50_2, k50_2, hi2, x1, cl, he2, hw, trim_le]
   exact ih
theorem containsFS (k : Option Bool) (l : List ByteArray) (hk : Enc.Ok k l) (hl : l.length ≤ 1000000) (F : Value) (p : ByteArray → Bool) (h : Heap) (hF : ∀ z ∈ l, Cl F [.string z] h (.bool (p z))) : Rd 31 [strE.o k l, F] h (.bool (l.any p)) := by
 intro lo st
 have hi := indexFS k l hk hl F p h hF
 unfold Rd at hi
 rw [← idxB_pos p l]
 generalize strE.o k l = VL at *
 rw [ret5 m31, L_fn F31 rfl]
 simp -implicitDefEqProofs [r31, p31, hi, trim_le, frz_set8]
theorem indexFI (k : Option Bool) (l : List Int) (hk : Enc.Ok k l) (hl : l.length ≤ 1000000) (F : Value) (p : Int → Bool) (h : Heap) (hF : ∀ z ∈ l, Cl F [.int .i64 z] h (.bool (p z))) : Rd 85 [intE.o k l, F] h (.int .i64 (idxB p l 0)) := by
 intro lo st
 have ll : ∀ h, lenT .sl h (intE.o k l) = some (.int .i64 l.length) := fun h => Enc.o_len hk
 have il : ∀ (i : Nat) (hi : i < l.length), indexAddrT (.sl 3 ⟨some false, some 1⟩) (intE.o k l) (.int .i64 (i : Int)) = some (cptr (.int .i64 l[i])) := fun i hi => Enc.index_o hk hi
 generalize intE.o k l = VL at *
 rw [ret5 m85, L_fn F85 rfl]
 simp -implicitDefEqProofs [r85, p85, ll]
 rw [LL_for (γ := Unit) l () (fun i _ => [(8, .int .i64 i)]) (fun _ _ => h) (fun i rest _ => if idxB p rest i = -1 then (.exit 0, [(8, undef)], h) else (.ret, [(4, .int .i64 (idxB p rest i)), (8, undef)], h)) (fun _ _ => True) (by omega) trivial]
 ·rw [show ((0 : Nat) : Int) = 0 from rfl]
  by_cases q : idxB p l 0 = -1
  ·simp -implicitDefEqProofs [k85_2, q, trim_le, frz_set8]
  ·simp -implicitDefEqProofs [k85_2, q, trim_le, frz_set8]
 ·simp -implicitDefEqProofs [k85_2]
 ·rfl
 ·intro nx i c hi _
  have e : ∀ z, idxB p [] z = -1 := fun _ => rfl
  simp -implicitDefEqProofs [r85_2, k85_2, hi, e, trim_le]
 ·intro nx i v rest c hi hv hd hw _ ih
  have ih := ih () trivial
  have hi2 : ((i : Int) < l.length) := by omega
  have x1 := il i hi
  have cl := hF v (by rw [← hv]; exact List.getElem_mem hi)
  unfold Cl at cl
  rw [hv] at x1
  have e2 : (((i + 1 : Nat) : Int)) = (i : Int) + 1 := by omega
  rw [e2] at ih
  rw [idxB_cons]
  simp -implicitDefEqProofs [k85_2] at ih
  by_cases he : p v = true
  ·have hn : ¬ ((i : Int) = -1) := by omega
   rw [he] at cl
   simp -implicitDefEqProofs [r85_2, k85_2, hi2, x1, hn, cl, he, trim_le]
  ·have he2 : p v = false := by simpa using he
   rw [he2] at cl
   simp -implicitDefEqProofs [r85_2, k85_2, hi2, x1, cl, he2, hw, trim_le]
   exact ih
theorem containsFI (k : Option Bool) (l : List Int) (hk : Enc.Ok k l) (hl : l.length ≤ 1000000) (F : Value) (p : Int → Bool) (h : Heap) (hF : ∀ z ∈ l, Cl F [.int .i64 z] h (.bool (p z))) : Rd 62 [intE.o k l, F] h (.bool (l.any p)) := by
 intro lo st
 have hi := indexFI k l hk hl F p h hF
 unfold Rd at hi
 rw [← idxB_pos p l]
 generalize intE.o k l = VL at *
 rw [ret5 m62, L_fn F62 rfl]
 simp -implicitDefEqProofs [r62, p62, hi, trim_le, frz_set8]
theorem index_strs (x : Option Bool) (l : List ByteArray) (z : ByteArray) (hx : Enc.Ok x l) (hl : l.length ≤ 1000000) : pureCall E.P (L E) 51 [strE.o x l, .string z] = some (.int .i64 (idxB (fun a => decide (z = a)) l 0)) := by
 have ll : ∀ h, lenT .sl h (strE.o x l) = some (.int .i64 l.length) := fun h => Enc.o_len hx
 have il : ∀ (i : Nat) (hi : i < l.length), indexAddrT (.sl 9 ⟨some false, some 1⟩) (strE.o x l) (.int .i64 (i : Int)) = some (cptr (.string l[i])) := fun i hi => Enc.index_o hx hi
 generalize strE.o x l = VL at *
 rw [pureCall_fn F51 rfl]
 generalize hf : (fun a => decide (z = a)) = f
 simp -implicitDefEqProofs [r51, p51, ll]
 rw [LL_for (γ := Unit) l () (fun i _ => [(8, .int .i64 i)]) (fun _ _ => []) (fun i rest _ => if idxB f rest i = -1 then (.exit 0, [(8, undef)], []) else (.ret, [(4, .int .i64 (idxB f rest i)), (8, undef)], [])) (fun _ _ => True) (by omega) trivial]
 ·rw [show ((0 : Nat) : Int) = 0 from rfl]
  by_cases q : idxB f l 0 = -1
  ·simp -implicitDefEqProofs [k51_2, q]
  ·simp -implicitDefEqProofs [k51_2, q]
 ·simp -implicitDefEqProofs [k51_2]
 ·rfl
 ·intro nx i c hi _
  have e : ∀ z, idxB f [] z = -1 := fun _ => rfl
  simp -implicitDefEqProofs [r51_2, k51_2, hi, e, trim_le]
 ·intro nx i v rest c hi hv hd hw _ ih
  have ih := ih () trivial
  have hi2 : ((i : Int) < l.length) := by omega
  have x1 := il i hi
  rw [hv] at x1
  have e2 : (((i + 1 : Nat) : Int)) = (i : Int) + 1 := by omega
  rw [e2] at ih
  rw [idxB_cons]
  simp -implicitDefEqProofs [k51_2] at ih
  have ef : f v = decide (z = v) := by rw [← hf]
  rw [ef]
  by_cases he : z = v
  ·have hn : ¬ ((i : Int) = -1) := by omega
   subst he
   simp -implicitDefEqProofs [r51_2, k51_2, hi2, x1, hn, trim_le]
  ·simp -implicitDefEqProofs [r51_2, k51_2, hi2, x1, he, hw, trim_le]
   exact ih
theorem contains_strs (x : Option Bool) (l : List ByteArray) (z : ByteArray) (hx : Enc.Ok x l) (hl : l.length ≤ 1000000) : pureCall E.P (L E) 33 [strE.o x l, .string z] = some (.bool (l.any fun a => decide (z = a))) := by
 have hi := index_strs x l z hx hl
 have rf : ∀ h, reify E.P 8 h (strE.o x l) = some (strE.o x l) := fun h => Enc.o_reify
 rw [← idxB_pos (fun a => decide (z = a)) l]
 generalize strE.o x l = VL at *
 rw [pureCall_fn F33 rfl]
 simp -implicitDefEqProofs [r33, p33, ret0 m51, rf, hi]
end Go.Proofs.YtgefjhjmkejjbaaDoor.Bm
namespace Go.Proofs.YtgefjhjmkejjbaaDoor.Bm
open Go Go.RowKit
open Co (ltB rem maskF)
def setV (a : Nat) : Value := .int .u64 (a : Int)
theorem wrapU {m : Nat} (h : m < 2 ^ 64) : IntKind.u64.wrap (m : Int) = (m : Int) := by
 unfold IntKind.wrap
 simp [IntKind.bits, IntKind.signed]
 omega
theorem ofI (a : Nat) : BitVec.ofInt 64 (a : Int) = BitVec.ofNat 64 a := BitVec.ofInt_natCast 64 a
theorem bits_lt {a i : Nat} (h : a < 2 ^ 64) (hi : a.testBit i = true) : i < 64 := by
 apply Nat.lt_of_not_le
 intro h2
 rw [Nat.testBit_lt_two_pow (Nat.lt_of_lt_of_le h (Nat.pow_le_pow_right (by omega) h2))] at hi
 cases hi
theorem bit_of {a : Nat} (h : a < 2 ^ 64) (i : Nat) : (BitVec.ofNat 64 a).getLsbD i = a.testBit i := by
 rw [BitVec.getLsbD_ofNat]
 cases q : a.testBit i
 ·rw [Bool.and_false]
 ·rw [Bool.and_true, decide_eq_true (bits_lt h q)]
theorem lt_of_bits {a : Nat} (h : ∀ i, 64 ≤ i → a.testBit i = false) : a < 2 ^ 64 := Nat.lt_pow_two_of_testBit a h
theorem high {a i : Nat} (h : a < 2 ^ 64) (hi : 64 ≤ i) : a.testBit i = false := by
 cases q : a.testBit i
 ·rfl
 ·exact absurd (bits_lt h q) (by omega)
theorem and_lt {a b : Nat} (h : a < 2 ^ 64) : a &&& b < 2 ^ 64 := lt_of_bits fun i hi => by rw [Nat.testBit_and, high h hi, Bool.false_and]
theorem or_lt {a b : Nat} (h : a < 2 ^ 64) (h2 : b < 2 ^ 64) : a ||| b < 2 ^ 64 := lt_of_bits fun i hi => by rw [Nat.testBit_or, high h hi, high h2 hi]; rfl
theorem rem_lt {a b : Nat} (h : a < 2 ^ 64) : rem a b < 2 ^ 64 := lt_of_bits fun i hi => by rw [Co.rem_bit, high h hi, Bool.false_and]
theorem bin_andU {P : Program} {t : TypeId} {a b : Nat} (h : a < 2 ^ 64) (h2 : b < 2 ^ 64) : aBin P .and t (setV a) (setV b) = some (setV (a &&& b)) := by
 show some (Value.int .u64 (IntKind.u64.wrap ((BitVec.ofInt 64 (a : Int) &&& BitVec.ofInt 64 (b : Int)).toNat : Nat))) = _
 have e : (BitVec.ofInt 64 (a : Int) &&& BitVec.ofInt 64 (b : Int)).toNat = a &&& b := by
  rw [ofI, ofI, BitVec.toNat_and, BitVec.toNat_ofNat, BitVec.toNat_ofNat, Nat.mod_eq_of_lt h, Nat.mod_eq_of_lt h2]
 rw [e, wrapU (and_lt h)]; rfl
theorem bin_orU {P : Program} {t : TypeId} {a b : Nat} (h : a < 2 ^ 64) (h2 : b < 2 ^ 64) : aBin P .or t (setV a) (setV b) = some (setV (a ||| b)) := by
 show some (Value.int .u64 (IntKind.u64.wrap ((BitVec.ofInt 64 (a : Int) ||| BitVec.ofInt 64 (b : Int)).toNat : Nat))) = _
 have e : (BitVec.ofInt 64 (a : Int) ||| BitVec.ofInt 64 (b : Int)).toNat = a ||| b := by
  rw [ofI, ofI, BitVec.toNat_or, BitVec.toNat_ofNat, BitVec.toNat_ofNat, Nat.mod_eq_of_lt h, Nat.mod_eq_of_lt h2]
 rw [e, wrapU (or_lt h h2)]; rfl
theorem bin_remU {P : Program} {t : TypeId} {a b : Nat} (h : a < 2 ^ 64) (h2 : b < 2 ^ 64) : aBin P .andNot t (setV a) (setV b) = some (setV (rem a b)) := by
 show some (Value.int .u64 (IntKind.u64.wrap ((BitVec.ofInt 64 (a : Int) &&& ~~~ BitVec.ofInt 64 (b : Int)).toNat : Nat))) = _
 have e : (BitVec.ofInt 64 (a : Int) &&& ~~~ BitVec.ofInt 64 (b : Int)).toNat = rem a b := by
  apply Nat.eq_of_testBit_eq
  intro i
  rw [BitVec.testBit_toNat, BitVec.getLsbD_and, BitVec.getLsbD_not, ofI, ofI, bit_of h, bit_of h2, Co.rem_bit]
  cases q : a.testBit i
  ·rfl
  ·rw [decide_eq_true (bits_lt h q)]; simp
 rw [e, wrapU (rem_lt h)]; rfl
theorem bin_shlU {P : Program} {t : TypeId} {n : Nat} (h : n < 64) : aBin P .shl t (setV 1) (.int .i64 (n : Int)) = some (setV (2 ^ n)) := by
 show (if (n : Int) < 0 then none else some (Value.int .u64 (IntKind.u64.wrap (((1 : Nat) : Int) * 2 ^ (min (n : Int).toNat 64))))) = _
 rw [if_neg (by omega), Int.toNat_natCast, Nat.min_eq_left (by omega), Int.natCast_one, Int.one_mul]
 have e : (2 : Int) ^ n = ((2 ^ n : Nat) : Int) := by rw [Int.natCast_pow]; rfl
 rw [e, wrapU (Nat.pow_lt_pow_right (by omega) h)]; rfl
theorem bin_shrU {P : Program} {t : TypeId} {a n : Nat} (h : n < 64) : aBin P .shr t (setV a) (.int .i64 (n : Int)) = some (setV (a >>> n)) := by
 show (if (n : Int) < 0 then none else some (Value.int .u64 (Int.fdiv (a : Int) (2 ^ (min (n : Int).toNat 64))))) = _
 rw [if_neg (by omega), Int.toNat_natCast, Nat.min_eq_left (by omega)]
 have e : (2 : Int) ^ n = ((2 ^ n : Nat) : Int) := by rw [Int.natCast_pow]; rfl
 rw [e, Nat.shiftRight_eq_div_pow]
 have e2 : Int.fdiv (a : Int) ((2 ^ n : Nat) : Int) = ((a / 2 ^ n : Nat) : Int) := by
  rw [Int.fdiv_eq_ediv_of_nonneg _ (Int.natCast_nonneg _)]
  exact (Int.natCast_ediv a (2 ^ n)).symm
 rw [e2]; rfl
theorem bit_at (a n : Nat) : (a >>> n) &&& 1 = if a.testBit n = true then 1 else 0 := by
 rw [Nat.testBit, Nat.and_one_is_mod, Nat.one_and_eq_mod_two]
 have := Nat.mod_two_eq_zero_or_one (a >>> n)
 rcases this with h | h <;> rw [h] <;> rfl
theorem mk_eq {P : Program} {t : TypeId} {a b : Nat} : aBin P .eql t (setV a) (setV b) = some (.bool (decide (a = b))) := by
 show some (Value.bool ((a : Int) == (b : Int))) = _
 congr 2
 rw [Bool.eq_iff_iff]; simp; omega
theorem mk_neq {P : Program} {t : TypeId} {a b : Nat} : aBin P .neq t (setV a) (setV b) = some (.bool (!decide (a = b))) := by
 show some (Value.bool ((a : Int) != (b : Int))) = _
 congr 2
 rw [Bool.eq_iff_iff]; simp; omega
theorem mk_reify {P : Program} {n : Nat} {h : Heap} {a : Nat} : reify P (n + 1) h (setV a) = some (setV a) := rfl
end Go.Proofs.YtgefjhjmkejjbaaDoor.Bm
