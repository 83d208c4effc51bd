/-
  Chapter 27: are two alternatives apart? Conditions: few alternatives; a heap that names only itself.
-/
import Derived.Test.YtgefjhjmkejjbaaDoorQB15
import Derived.Test.YtgefjhjmkejjbaaDoorQB16
import Derived.Test.YtgefjhjmkejjbaaDoorQB18
import Derived.Test.YtgefjhjmkejjbaaDoorQB17
namespace Go.Proofs.YtgefjhjmkejjbaaDoor.Bm
open Go Go.RowKit
structure Enc (α : Type) where
  e : α → Value
  one : ∀ a, one (e a) = true
  set : ∀ a n, settled (n + 1) (e a) = true
  bel : ∀ a d n, below (d + 1) n (e a) = true
  fits : ∀ a sz, fitsTT ⟨some false, sz⟩ (e a) = true
namespace Enc
variable {α : Type} {O : Enc α} {h : Heap} {l m : List α} {P : Program}
def vals (O : Enc α) (l : List α) : List Value := l.map O.e
def o (O : Enc α) (k : Option Bool) (l : List α) : Value := match k with | none => .slice none 0 0 | some b => lst b (O.vals l)
def Ok (k : Option Bool) (l : List α) : Prop := k = none → l = []
theorem ok_some {b : Bool} : Ok (some b) l := fun h => by cases h
def row (O : Enc α) (t : TypeId) (l : List α) : AObj := .cells t (O.vals l) 1
def part (b n : Nat) (l : List α) : Value := .slice (some ⟨b, 0, some l.length⟩) n l.length
def sl (b : Nat) (l : List α) : Value := .slice (some ⟨b, 0, some l.length⟩) l.length l.length
def at_ (b : Nat) (l : List α) (i : Nat) : Value := .pointer (some ⟨b, i, some l.length⟩)
theorem sl_part {b : Nat} : sl b l = part b l.length l := rfl
theorem vals_len : (O.vals l).length = l.length := List.length_map _
theorem vals_app : O.vals (l ++ m) = O.vals l ++ O.vals m := List.map_append
theorem e_cells (a : α) : cellsL (O.e a) = [O.e a] := by
  have := O.one a
  unfold cellsL
  split
  · rename_i h; rw [h] at this; cases this
  · rfl
theorem vals_all (l : List α) : (O.vals l).all (fun v => (cellsL v).length == 1) = true := by
  rw [List.all_eq_true]
  intro v hv
  obtain ⟨a, _, rfl⟩ := List.mem_map.1 hv
  rw [e_cells]; rfl
theorem vals_set (l : List α) : (O.vals l).all (settled 8) = true := by
  rw [List.all_eq_true]
  intro v hv
  obtain ⟨a, _, rfl⟩ := List.mem_map.1 hv
  exact O.set a 7
theorem vals_flat : ∀ l : List α, (O.vals l).flatMap cellsL = O.vals l
  | [] => rfl
  | a :: l => by
    show cellsL (O.e a) ++ (O.vals l).flatMap cellsL = O.e a :: O.vals l
    rw [e_cells, vals_flat l]; rfl
theorem vals_get {i : Nat} (hi : i < l.length) : (O.vals l)[i]? = some (O.e l[i]) := by
  unfold vals; rw [List.getElem?_map, List.getElem?_eq_getElem hi]; rfl
theorem vals_take (n : Nat) : (O.vals l).take n = O.vals (l.take n) := by unfold vals; rw [List.map_take]
theorem vals_drop (n : Nat) : (O.vals l).drop n = O.vals (l.drop n) := by unfold vals; rw [List.map_drop]
theorem o_len {k : Option Bool} (hk : Ok k l) : lenT .sl h (O.o k l) = some (.int .i64 l.length) := by
  cases k with
  | none => rw [hk rfl]; rfl
  | some b => show lenT .sl h (lst b (O.vals l)) = _; rw [len_lst, vals_len]
theorem o_one {k : Option Bool} : Bm.one (O.o k l) = true := by cases k <;> rfl
theorem o_set {k : Option Bool} {n : Nat} : settled (n + 1) (O.o k l) = true := by cases k <;> rfl
theorem o_bel {k : Option Bool} {d n : Nat} : below (d + 1) n (O.o k l) = true := by cases k <;> rfl
theorem o_fits {k : Option Bool} {sz : Option Nat} : fitsTT ⟨some false, sz⟩ (O.o k l) = true := by cases k <;> rfl
theorem o_reify {k : Option Bool} {n : Nat} : reify P (n + 1) h (O.o k l) = some (O.o k l) := by cases k <;> rfl
theorem o_reifyR {k : Option Bool} : reifyR P h (O.o k l) = some (O.o k l) := by cases k <;> rfl
theorem o_cellsL {k : Option Bool} : cellsL (O.o k l) = [O.o k l] := by cases k <;> rfl
theorem o_cellsOf {k : Option Bool} : cellsOf (O.o k l) = some [O.o k l] := by cases k <;> rfl
theorem cells_tree {x : Bool} : sliceCells h 1 (lst x (O.vals l)) = some (O.vals l, l.length) := by
  rw [cells_lst (vals_all l), vals_flat, vals_len]
theorem index_tree {x : Bool} {t : TypeId} {i : Nat} {k : IntKind} (hi : i < l.length) : indexAddrT (.sl t ⟨some false, some 1⟩) (lst x (O.vals l)) (.int k (i : Int)) = some (cptr (O.e l[i])) := by
  rw [index_lst, if_pos (by omega), Int.toNat_natCast, vals_get hi, Option.bind_some, O.fits, e_cells]; rfl
theorem index_o {x : Option Bool} {t : TypeId} {i : Nat} {k : IntKind} (hx : Ok x l) (hi : i < l.length) : indexAddrT (.sl t ⟨some false, some 1⟩) (O.o x l) (.int k (i : Int)) = some (cptr (O.e l[i])) := by
  cases x with
  | none => rw [hx rfl] at hi; exact absurd hi (Nat.not_lt_zero i)
  | some b => exact index_tree hi
theorem load_e (a : α) {sz : Option Nat} : loadT ⟨some false, sz⟩ h (cptr (O.e a)) = some (O.e a) := by rw [load_cptr, O.fits, if_pos rfl]
theorem take_tree {x : Bool} {t : TypeId} {g : Option Bool} {n : Nat} {k : IntKind} (hn : n ≤ l.length) : sliceT (.sl t ⟨g, some 1⟩) h (lst x (O.vals l)) none (some (.int k (n : Int))) none = some (lst (x && n == l.length) (O.vals (l.take n))) := by
  rw [slice_take (vals_all l) (by rw [vals_len]; exact hn), vals_len, vals_take]
theorem drop_tree {x : Bool} {t : TypeId} {g : Option Bool} {n : Nat} {z : Int} {k : IntKind} (hz : z = (n : Nat)) (hn : n ≤ l.length) : sliceT (.sl t ⟨g, some 1⟩) h (lst x (O.vals l)) (some (.int k z)) none none = some (lst x (O.vals (l.drop n))) := by
  rw [slice_drop (vals_all l) hz (by rw [vals_len]; exact hn), vals_drop]
theorem row_bel {n : Nat} {t : TypeId} : belowO n (O.row t l) = true := by
  show (O.vals l).all (below 8 n) = true
  rw [List.all_eq_true]
  intro v hv
  obtain ⟨a, _, rfl⟩ := List.mem_map.1 hv
  exact O.bel a 7 n
theorem part_bel {n d b k : Nat} (hb : b < n) : below (d + 1) n (part b k l) = true := decide_eq_true hb
theorem sl_bel {n d b : Nat} (hb : b < n) : below (d + 1) n (sl b l) = true := decide_eq_true hb
theorem part_len {b n : Nat} : lenT .sl h (part b n l) = some (.int .i64 n) := rfl
theorem sl_len {b : Nat} : lenT .sl h (sl b l) = some (.int .i64 l.length) := rfl
theorem part_index {b n i : Nat} {t : TypeId} {g : Option Bool} {k : IntKind} (hi : i < n) : indexAddrT (.sl t ⟨g, some 1⟩) (part b n l) (.int k (i : Int)) = some (at_ b l i) := by
  unfold part
  rw [index_slice, if_pos ⟨by omega, by omega⟩]
  show some (Value.pointer (some ⟨b, 0 + (i : Int).toNat * 1, some l.length⟩)) = _
  rw [Int.toNat_natCast, Nat.mul_one, Nat.zero_add]; rfl
theorem sl_index {b i : Nat} {t : TypeId} {g : Option Bool} {k : IntKind} (hi : i < l.length) : indexAddrT (.sl t ⟨g, some 1⟩) (sl b l) (.int k (i : Int)) = some (at_ b l i) := part_index hi
theorem row_of {b n : Nat} {t : TypeId} (hob : h[b]? = some (O.row t l)) (hn : n = l.length) {off : Nat} : rowOf h ⟨b, off, some n⟩ = some (O.vals l) := by
  subst hn
  unfold rowOf
  show (match h[b]? with | some (.cells _ c g) => _ | _ => none) = _
  rw [hob]
  show (if stampOk _ 1 (O.vals l).length = true then some (O.vals l) else none) = _
  rw [if_pos (by unfold stampOk; rw [vals_len]; simp)]
theorem fits_row {b n : Nat} {t : TypeId} (hob : h[b]? = some (O.row t l)) (hn : n = l.length) {off : Nat} : fitsRow h ⟨b, off, some n⟩ 1 = true := by
  subst hn
  unfold fitsRow
  show (match h[b]? with | some (.cells _ c g) => _ | _ => false) = true
  rw [hob]
  show (stampOk _ 1 (O.vals l).length && _) = true
  unfold stampOk; rw [vals_len]; simp
theorem load_at {b i : Nat} {t : TypeId} {sz : Option Nat} (hob : h[b]? = some (O.row t l)) (hi : i < l.length) : loadT ⟨some false, sz⟩ h (at_ b l i) = some (O.e l[i]) := by
  unfold at_
  rw [load_one, row_of hob rfl, Option.bind_some]
  exact vals_get hi
theorem reify_part {b n d : Nat} {t : TypeId} (hob : h[b]? = some (O.row t l)) (hn : n ≤ l.length) (hs : szOf P t = some 1) (ha : aggT P t = some false) : reify P (d + 1) h (part b n l) = some (lst false (O.vals (l.take n))) := by
  unfold part
  rw [reify_slice]
  by_cases h0 : n = 0
  · subst h0; rfl
  · rw [if_neg h0]
    show reifyS P d h h[b]? _ _ = _
    rw [hob]
    show reifyS P d h (some (.cells t (O.vals l) 1)) _ _ = _
    rw [reifyS_cells, hs, Option.bind_some, if_pos ⟨by unfold stampOk; rw [vals_len]; simp, Nat.one_pos, by rw [vals_len]; simp; omega⟩, List.drop_zero, Nat.mul_one, vals_take,
      reifyC_set (vals_set _), Option.bind_some, elems_one ha hs]; rfl
theorem reify_sl {b d : Nat} {t : TypeId} (hob : h[b]? = some (O.row t l)) (hs : szOf P t = some 1) (ha : aggT P t = some false) : reify P (d + 1) h (sl b l) = some (lst false (O.vals l)) := by
  have := reify_part (P := P) (d := d) hob (Nat.le_refl l.length) hs ha
  rw [List.take_length] at this
  exact this
theorem reifyR_sl {b : Nat} {t : TypeId} (hob : h[b]? = some (O.row t l)) (hs : szOf P t = some 1) (ha : aggT P t = some false) : reifyR P h (sl b l) = some (lst false (O.vals l)) := reify_sl hob hs ha
theorem frz_part {b n lo : Nat} {t : TypeId} (hob : h[b]? = some (O.row t l)) (hn : n ≤ l.length) (hs : szOf P t = some 1) (ha : aggT P t = some false) (hlo : lo ≤ b) :
    freezeV P depth lo h (part b n l) = some (lst false (O.vals (l.take n)), if n = 0 then h else h.set b .dead) := by
  have e : ((O.vals l).drop 0).take (n * 1) = O.vals (l.take n) := by rw [List.drop_zero, Nat.mul_one, vals_take]
  exact frz_row1 (a := ⟨b, 0, some l.length⟩) (t := t) (c := O.vals l) (g := 1) hob hs hlo (by unfold stampOk; rw [vals_len]; simp) Nat.one_pos (by rw [vals_len]; simp; omega) (by rw [e]; exact vals_set _)
    (by rw [e]; exact elems_one ha hs) (by rw [vals_len, List.length_take]; omega)
theorem frz_sl {b lo : Nat} {t : TypeId} (hob : h[b]? = some (O.row t l)) (hs : szOf P t = some 1) (ha : aggT P t = some false) (hlo : lo ≤ b) :
    freezeV P depth lo h (sl b l) = some (lst false (O.vals l), if l.length = 0 then h else h.set b .dead) := by
  have := frz_part (P := P) (lo := lo) hob (Nat.le_refl l.length) hs ha hlo
  rw [List.take_length] at this
  exact this
theorem part_take {b n m : Nat} {t : TypeId} {g : Option Bool} {e : TypeId} {k : IntKind} (hob : h[b]? = some (O.row t l)) (hm : m ≤ l.length) : sliceT (.sl e ⟨g, some 1⟩) h (part b n l) none (some (.int k (m : Int))) none = some (part b m l) := by
  have hf := fits_row hob rfl (off := 0)
  unfold part
  show (some 1).bind (fun s => if fitsRow h ⟨b, 0, some l.length⟩ s then _ else none) = _
  rw [Option.bind_some, if_pos hf]
  show (bound none l.length l.length).bind (fun mm => (bound (some (.int k (m : Int))) mm n).bind fun u => (bound none u 0).map fun l' => rowSl false ⟨b, 0, some l.length⟩ 1 mm u l') = _
  rw [bound_no, Option.bind_some, bound_nat hm, Option.bind_some, bound_no]
  show some (rowSl false ⟨b, 0, some l.length⟩ 1 l.length m 0) = _
  unfold rowSl
  rw [if_neg (by simp)]
  simp [shift]
theorem app {el : El} {lo b : Nat} {t : TypeId} {u : Value} (hel : el.size = 1) (hob : h[b]? = some (O.row t l)) (hu : sliceCells h 1 u = some (O.vals m, m.length)) (hlo : lo ≤ b) (hb : (l.length + m.length) * el.bytes ≤ 2 ^ 47) :
    appendT (some el) h lo false (sl b l) u = some (sl b (l ++ m), h.set b (O.row t (l ++ m))) := by
  have hob' : h[b]? = some (.cells t (O.vals l) 1) := hob
  unfold sl
  rw [append_slice, hel, hu]
  show appS el h lo false _ _ _ h[b]? _ = _
  by_cases hm : m.length = 0
  · have : m = [] := List.eq_nil_of_length_eq_zero hm
    subst this
    have hf : fitsRow h ⟨b, 0, some l.length⟩ el.size = true := by rw [hel]; exact fits_row hob rfl
    unfold appS
    simp only [List.append_nil, List.length_nil, Nat.add_zero, Nat.le_refl, if_true, hf, Option.bind_some]
    congr 2
    refine (List.ext_getElem? fun i => ?_)
    rw [List.getElem?_set]
    split
    · rename_i e; subst e
      split
      · exact hob
      · rename_i hlt; rw [List.getElem?_eq_none (by omega)]
    · rfl
  · rw [hob']
    refine (appS_grown (m := m.length) hm vals_len.symm rfl hel (by rw [vals_len]; omega) hlo hb).trans ?_
    unfold row
    rw [vals_app, List.length_append, vals_len, vals_len, List.length_append]
theorem app_room {el : El} {lo b i : Nat} {t : TypeId} {u : Value} (hel : el.size = 1) (hob : h[b]? = some (O.row t l)) (hu : sliceCells h 1 u = some (O.vals m, m.length)) (hm : m ≠ []) (hlo : lo ≤ b) (hi : i + m.length ≤ l.length) :
    appendT (some el) h lo false (part b i l) u = some (part b (i + m.length) (l.take i ++ m ++ l.drop (i + m.length)), h.set b (O.row t (l.take i ++ m ++ l.drop (i + m.length)))) := by
  have hob' : h[b]? = some (.cells t (O.vals l) 1) := hob
  have hm0 : m.length ≠ 0 := fun e => hm (List.eq_nil_of_length_eq_zero e)
  have hf : fitsRow h ⟨b, 0, some l.length⟩ el.size = true := by rw [hel]; exact fits_row hob rfl
  have hlen : (l.take i ++ m ++ l.drop (i + m.length)).length = l.length := by simp; omega
  unfold part
  rw [append_slice, hel, hu]
  show appS el h lo false _ _ _ h[b]? _ = _
  unfold appS
  simp only [Option.bind_some]
  rw [if_pos hi, if_neg hm0, hf]
  simp only [Bool.not_true, Bool.or_false, Bool.false_eq_true, if_false]
  unfold wrN
  show Option.map _ (match h[b]? with | some (.cells t c g) => _ | _ => none) = _
  rw [hob']
  show Option.map _ (if _ then _ else none) = _
  rw [if_pos ⟨hlo, by unfold shift stampOk; rw [vals_len]; simp, by rw [vals_len]; omega, by unfold shift; rw [vals_len, vals_len, hel]; simp; omega⟩]
  show some (_, h.set b (.cells t (splice (O.vals l) (0 + i * el.size) (O.vals m)) 1)) = _
  have e : splice (O.vals l) (0 + i * el.size) (O.vals m) = O.vals (l.take i ++ m ++ l.drop (i + m.length)) := by
    unfold splice
    rw [hel, Nat.zero_add, Nat.mul_one, vals_len, vals_take, vals_drop, vals_app, vals_app]
  rw [e, hlen]; rfl
theorem app_tree {el : El} {lo : Nat} {st : Bool} {u : Value} (hel : el.size = 1) (hu : sliceCells h 1 u = some (O.vals m, m.length)) (hm : m ≠ []) (hb : (l.length + m.length) * el.bytes ≤ 2 ^ 47) :
    appendT (some el) h lo st (lst true (O.vals l)) u = some (sl h.length (l ++ m), h ++ [O.row el.e (l ++ m)]) := by
  have hm0 : m.length ≠ 0 := fun e => hm (List.eq_nil_of_length_eq_zero e)
  rw [append_lst, hel, hu]
  simp only [Option.bind_some]
  rw [if_neg hm0, if_pos ⟨vals_all l, by rw [vals_len]; exact hb⟩, vals_len, vals_flat, ← vals_app, vals_len]
  unfold sl
  rw [List.length_append]
  rfl
theorem lit {el : El} (a : α) (hel : el.size = 1) (hz : el.z.cells.size = 1) (hk : el.k = ⟨some false, some 1⟩) : buildSliceT (some el) false h 1 #[(0, O.e a)] = some (lst true (O.vals [a]), h) := by
  rw [build_one' (O.one a) hel hz, if_neg (by simp), if_pos (O.set a 7), hk]; rfl
end Enc
def intE : Enc Int := ⟨.int .i64, fun _ => rfl, fun _ _ => rfl, fun _ _ _ => rfl, fun _ _ => rfl⟩
def strE : Enc ByteArray := ⟨.string, fun _ => rfl, fun _ _ => rfl, fun _ _ _ => rfl, fun _ _ => rfl⟩
end Go.Proofs.YtgefjhjmkejjbaaDoor.Bm
namespace Go.Proofs.YtgefjhjmkejjbaaDoor.Co
variable {S : Type} [DecidableEq S]
structure Front (lt : S → S → Bool) (f : S → S) : Prop where
  inj : ∀ a b, f a = f b → a = b
  lt : ∀ a b, lt (f a) (f b) = lt a b
def mapL (f : S → S) (l : List (List S)) : List (List S) := l.map (·.map f)
omit [DecidableEq S] in
theorem mem_front {lt : S → S → Bool} {f : S → S} (hf : Front lt f) {s : S} {a : List S} : f s ∈ a.map f ↔ s ∈ a := by
  rw [List.mem_map]
  constructor
  · rintro ⟨x, hx, e⟩
    rw [← hf.inj _ _ e]; exact hx
  · intro h
    exact ⟨s, h, rfl⟩
theorem mask_front {lt : S → S → Bool} {f : S → S} (hf : Front lt f) : ∀ (l : List (List S)) (s : S), maskF (mapL f l) (f s) = maskF l s
  | [], _ => rfl
  | a :: l, s => by
    show (if f s ∈ a.map f then 1 else 0) + 2 * maskF (mapL f l) (f s) = (if s ∈ a then 1 else 0) + 2 * maskF l s
    rw [mask_front hf l s]
    by_cases h : s ∈ a
    · rw [if_pos h, if_pos ((mem_front hf).2 h)]
    · rw [if_neg h, if_neg fun q => h ((mem_front hf).1 q)]
theorem names_front {lt : S → S → Bool} (ho : Ord lt) {f : S → S} (hf : Front lt f) (l : List (List S)) : namesF lt (mapL f l) = (namesF lt l).map f := by
  refine asc_ext ho (names_asc ho _) ?_ fun x => ?_
  · unfold AscL
    rw [List.pairwise_map]
    exact (names_asc ho l).imp fun {a b} h => by rw [hf.lt]; exact h
  · rw [names_mem ho, List.mem_map]
    constructor
    · rintro ⟨a, ha, hx⟩
      obtain ⟨b, hb, rfl⟩ := List.mem_map.1 ha
      obtain ⟨s, hs, rfl⟩ := List.mem_map.1 hx
      exact ⟨s, (names_mem ho).2 ⟨b, hb, hs⟩, rfl⟩
    · rintro ⟨s, hs, rfl⟩
      obtain ⟨b, hb, hsb⟩ := (names_mem ho).1 hs
      exact ⟨b.map f, List.mem_map.2 ⟨b, hb, rfl⟩, List.mem_map.2 ⟨s, hsb, rfl⟩⟩
def mapP (f : S → S) (p : S × Nat) : S × Nat := (f p.1, p.2)
omit [DecidableEq S] in
theorem need_map (f : S → S) (inf : Nat) : ∀ (r : List (S × Nat)) (o : Nat), needF inf (r.map (mapP f)) o = needF inf r o
  | [], _ => rfl
  | x :: r, o => by
    show (if o = 0 then 0 else if rem o x.2 = o then needF inf (r.map (mapP f)) o else min (needF inf (r.map (mapP f)) o) (1 + needF inf (r.map (mapP f)) (rem o x.2))) = _
    rw [need_map f inf r, need_map f inf r]; rfl
omit [DecidableEq S] in
theorem least_map (f : S → S) (inf : Nat) : ∀ (r : List (S × Nat)) (o : Nat), leastF inf (r.map (mapP f)) o = (leastF inf r o).map (mapP f)
  | [], _ => rfl
  | x :: r, o => by
    rw [List.map_cons, least_cons, least_cons, ← List.map_cons, need_map, need_map]
    show (if rem o x.2 ≠ o ∧ needF inf (x :: r) o = 1 + needF inf r (rem o x.2) then mapP f x :: leastF inf (r.map (mapP f)) (rem o x.2) else leastF inf (r.map (mapP f)) o) = _
    rw [least_map f inf r, least_map f inf r]
    split <;> rfl
theorem core_front {lt : S → S → Bool} (ho : Ord lt) {f : S → S} (hf : Front lt f) (l : List (List S)) : coreF lt (mapL f l) = (coreF lt l).map f := by
  have e1 : pairsF lt (mapL f l) = (pairsF lt l).map (mapP f) := by
    unfold pairsF
    rw [names_front ho hf, List.map_map, List.map_map]
    refine List.map_congr_left fun s _ => ?_
    show (f s, maskF (mapL f l) (f s)) = (f s, maskF l s)
    rw [mask_front hf]
  have e2 : infF lt (mapL f l) = infF lt l := by
    unfold infF
    rw [names_front ho hf, List.length_map]
    unfold mapL
    rw [List.length_map]
  have e3 : allF (mapL f l) = allF l := by unfold allF mapL; rw [List.length_map]
  unfold coreF
  rw [e1, e2, e3, least_map, List.map_map, List.map_map]; rfl
omit [DecidableEq S] in
theorem getD_front (f : S → S) (l : List (List S)) (i : Nat) : (mapL f l).getD i [] = (l.getD i []).map f := by
  unfold mapL
  rw [List.getD_eq_getElem?_getD, List.getD_eq_getElem?_getD, List.getElem?_map]
  cases l[i]? <;> rfl
theorem apart_front {lt : S → S → Bool} {f : S → S} (hf : Front lt f) (l : List (List S)) (i k : Nat) : apartF (mapL f l) i k = apartF l i k := by
  unfold apartF
  rw [getD_front, List.any_map]
  simp only [Function.comp_def, mask_front hf]
theorem pack_front {lt : S → S → Bool} {f : S → S} (hf : Front lt f) (l : List (List S)) (o n : Nat) : ∀ (r out : List Nat), packF (mapL f l) o n r out = packF l o n r out
  | [], _ => rfl
  | i :: r, out => by
    rw [packF_cons, packF_cons, pack_front hf l o n r, pack_front hf l o n r]
    have e : apartF (mapL f l) i = apartF l i := funext fun k => apart_front hf l i k
    rw [e]
theorem in_front {lt : S → S → Bool} {f : S → S} (hf : Front lt f) (l : List (List S)) (o : Nat) (a : List S) (i : Nat) : inF (mapL f l) o (a.map f) i = inF l o a i := by
  unfold inF
  rw [List.getElem?_map]
  cases a[i]? with
  | none => rfl
  | some s => show maskF (mapL f l) (f s) &&& o = _; rw [mask_front hf]
theorem choices_front {lt : S → S → Bool} {f : S → S} (hf : Front lt f) (l : List (List S)) (o : Nat) (a : List S) : choicesF (mapL f l) o (a.map f) = choicesF l o a := by
  unfold choicesF
  rw [List.length_map]
  refine List.filter_congr fun i _ => ?_
  unfold freeF
  rw [List.length_map]
  simp only [in_front hf]
theorem prove_front {lt : S → S → Bool} {f : S → S} (hf : Front lt f) (l : List (List S)) : ∀ (n o : Nat), proveF (mapL f l) n o = proveF l n o
  | 0, _ => rfl
  | n + 1, o => by
    unfold proveF
    have el : (mapL f l).length = l.length := by unfold mapL; rw [List.length_map]
    rw [pack_front hf, el, getD_front, choices_front hf]
    cases packF l o (n + 1) (List.range l.length) [] with
    | some K => rfl
    | none =>
      dsimp only
      congr 1
      refine congrArg (List.flatMap · _) (funext fun i => ?_)
      rw [prove_front hf l n, List.getElem?_map]
      congr 2
      cases (l.getD (firstF o l.length 0) [])[i]? with
      | none => rfl
      | some s => exact mask_front hf l s
theorem hits_perm {l m : List (List S)} (h : ∀ a, a ∈ l ↔ a ∈ m) (C : List S) : hitsF l C = hitsF m C := by
  rw [Bool.eq_iff_iff, hits_iff, hits_iff]
  exact ⟨fun q a ha => q a ((h a).2 ha), fun q a ha => q a ((h a).1 ha)⟩
theorem names_perm {lt : S → S → Bool} (ho : Ord lt) {l m : List (List S)} (h : ∀ a, a ∈ l ↔ a ∈ m) : namesF lt l = namesF lt m := asc_ext ho (names_asc ho l) (names_asc ho m) fun x => by
  rw [names_mem ho, names_mem ho]
  exact ⟨fun ⟨a, ha, hx⟩ => ⟨a, (h a).1 ha, hx⟩, fun ⟨a, ha, hx⟩ => ⟨a, (h a).2 ha, hx⟩⟩
theorem core_perm {lt : S → S → Bool} (ho : Ord lt) {l m : List (List S)} (h : ∀ a, a ∈ l ↔ a ∈ m) (hne : ∀ a ∈ l, a ≠ []) : coreF lt m = coreF lt l := by
  have h1 := core_is ho hne
  have h2 := core_is ho (l := m) fun a ha => hne a ((h a).2 ha)
  refine core_uniq ho (l := l) ⟨?_, ?_, ?_, ?_⟩ h1
  · rw [names_perm ho h]; exact h2.sub
  · rw [hits_perm h]; exact h2.hits
  · intro C hC
    exact h2.least C (by rw [← hits_perm h]; exact hC)
  · intro C hs hC hl
    exact h2.first C (by rw [← names_perm ho h]; exact hs) (by rw [← hits_perm h]; exact hC) hl
end Go.Proofs.YtgefjhjmkejjbaaDoor.Co
namespace Go.Proofs.YtgefjhjmkejjbaaDoor.Co
variable {S : Type} [DecidableEq S]
theorem pack_len {l : List (List S)} {o n : Nat} : ∀ {r out K : List Nat}, packF l o n r out = some K → K.length = n
  | [], out, K, h => by
    rw [packF_nil] at h
    split at h
    · rename_i q; cases h; exact q
    · cases h
  | i :: r, out, K, h => by
    rw [packF_cons] at h
    split at h
    · rename_i q; cases h; exact q
    split at h
    · cases hq : packF l o n r (out ++ [i]) with
      | some K' => rw [hq] at h; cases h; exact pack_len hq
      | none => rw [hq] at h; exact pack_len (show packF l o n r out = some K from h)
    · exact pack_len h
end Go.Proofs.YtgefjhjmkejjbaaDoor.Co
namespace Go.Proofs.YtgefjhjmkejjbaaDoor.Co
variable {S : Type} [DecidableEq S]
def subF : List S → Nat → List S
  | [], _ => []
  | a :: n, s => if s % 2 = 1 then a :: subF n (s / 2) else subF n (s / 2)
def ascB {α : Type} (lt : α → α → Bool) : List α → Bool
  | a :: b :: l => lt a b && ascB lt (b :: l)
  | _ => true
theorem idx_asc : ∀ (n : Nat) (l : List Int), idxF n l = (ascB (fun a b : Int => decide (a < b)) l && !l.any fun i => decide (i < 0) || decide ((n : Int) ≤ i))
  | _, [] => rfl
  | n, [k] => by
    show (decide (0 ≤ k) && decide (k < (n : Int))) = (true && !((decide (k < 0) || decide ((n : Int) ≤ k)) || false))
    rw [Bool.or_false, Bool.true_and, Bool.eq_iff_iff]
    simp
  | n, k :: j :: r => by
    have ih := idx_asc n (j :: r)
    show (decide (0 ≤ k) && (decide (k < (n : Int)) && (decide (k < j) && idxF n (j :: r)))) = _
    rw [ih]
    show _ = ((decide (k < j) && ascB _ (j :: r)) && !((decide (k < 0) || decide ((n : Int) ≤ k)) || (j :: r).any _))
    have e1 : decide (0 ≤ k) = !decide (k < 0) := by rw [Bool.eq_iff_iff]; simp
    have e2 : decide (k < (n : Int)) = !decide ((n : Int) ≤ k) := by rw [Bool.eq_iff_iff]; simp
    rw [e1, e2]
    generalize ascB (fun a b : Int => decide (a < b)) (j :: r) = p
    generalize ((j :: r).any fun i => decide (i < 0) || decide ((n : Int) ≤ i)) = q
    cases decide (k < 0) <;> cases decide ((n : Int) ≤ k) <;> cases decide (k < j) <;> cases p <;> cases q <;> rfl
def badA (lt : S → S → Bool) (l : List (List S)) : Bool := decide (l.length < 1) || decide (8 < l.length) || l.any fun a => decide (12 < a.length) || !ascB lt a
def errF (lt : S → S → Bool) (arg none_ : Int) (l : List (List S)) : Int := if badA lt l = true then arg else if (l.any fun a => a.isEmpty) = true then none_ else 0
structure Good (lt : S → S → Bool) (l : List (List S)) : Prop where
  pos : l ≠ []
  few : l.length ≤ 8
  small : ∀ a ∈ l, a.length ≤ 12
  asc : ∀ a ∈ l, ascB lt a = true
  ne : ∀ a ∈ l, a ≠ []
omit [DecidableEq S] in
theorem err_good {lt : S → S → Bool} {arg none_ : Int} (h1 : arg ≠ 0) (h2 : none_ ≠ 0) {l : List (List S)} : errF lt arg none_ l = 0 ↔ Good lt l := by
  unfold errF badA
  constructor
  · intro h
    split at h
    · exact absurd h h1
    rename_i q
    split at h
    · exact absurd h h2
    rename_i q2
    simp only [Bool.or_eq_true, decide_eq_true_eq, not_or, Bool.not_eq_true, List.any_eq_false, Bool.not_eq_true'] at q q2
    obtain ⟨⟨q1, q3⟩, q4⟩ := q
    refine ⟨fun e => by rw [e] at q1; simp at q1, by omega, fun a ha => ?_, fun a ha => ?_, fun a ha e => ?_⟩
    · have := (q4 a ha).1; omega
    · have := (q4 a ha).2
      simpa using this
    · have := q2 a ha
      rw [e] at this; simp at this
  · intro g
    have hl := List.length_pos_iff.2 g.pos
    have hf := g.few
    rw [if_neg, if_neg]
    · intro h
      obtain ⟨a, ha, h⟩ := List.any_eq_true.1 h
      exact g.ne a ha (List.isEmpty_iff.1 h)
    · simp only [Bool.or_eq_true, decide_eq_true_eq, List.any_eq_true, Bool.not_eq_true']
      rintro ((h | h) | ⟨a, ha, h | h⟩)
      · omega
      · omega
      · have := g.small a ha; omega
      · rw [g.asc a ha] at h; cases h
theorem fold_len {lt : S → S → Bool} : ∀ (a out : List S), (a.foldl (fun o s => insF lt s o) out).length ≤ a.length + out.length
  | [], _ => by simp
  | s :: a, out => by
    have h1 := fold_len (lt := lt) a (insF lt s out)
    have h2 : ∀ l : List S, (insF lt s l).length ≤ l.length + 1 := fun l => by
      induction l with
      | nil => exact Nat.le_refl _
      | cons x l ih =>
        unfold insF
        split
        · rw [List.length_cons, List.length_cons]; omega
        · split
          · exact Nat.le_succ _
          · exact Nat.le_refl _
    have := h2 out
    rw [List.foldl_cons, List.length_cons]
    omega
theorem names_len {lt : S → S → Bool} : ∀ (l : List (List S)) (out : List S) (m : Nat), (∀ a ∈ l, a.length ≤ m) → (l.foldl (fun out a => a.foldl (fun o s => insF lt s o) out) out).length ≤ l.length * m + out.length
  | [], _, _, _ => by simp
  | a :: l, out, m, h => by
    have h1 := names_len (lt := lt) l (a.foldl (fun o s => insF lt s o) out) m fun x hx => h x (List.mem_cons_of_mem _ hx)
    have h2 := fold_len (lt := lt) a out
    have h3 := h a List.mem_cons_self
    rw [List.foldl_cons, List.length_cons, Nat.add_mul, Nat.one_mul]
    omega
theorem good_names {lt : S → S → Bool} {l : List (List S)} (g : Good lt l) : (namesF lt l).length ≤ 96 := by
  have := names_len (lt := lt) l [] 12 g.small
  have hf := g.few
  unfold namesF
  rw [List.length_nil] at this
  omega
end Go.Proofs.YtgefjhjmkejjbaaDoor.Co
namespace Go.Proofs.YtgefjhjmkejjbaaDoor.Bm
open Go Go.RowKit
open Co (ltB ascB)
def listE : Enc (Option Bool × List ByteArray) := ⟨fun p => strE.o p.1 p.2, fun _ => Enc.o_one, fun _ _ => Enc.o_set, fun _ _ _ => Enc.o_bel, fun _ _ => Enc.o_fits⟩
def rowE : Enc (Option Bool × List Int) := ⟨fun p => intE.o p.1 p.2, fun _ => Enc.o_one, fun _ _ => Enc.o_set, fun _ _ _ => Enc.o_bel, fun _ _ => Enc.o_fits⟩
theorem bin_geq_str {P : Program} {t : TypeId} {s r : ByteArray} : aBin P .geq t (.string s) (.string r) = some (.bool (!ltB s r)) := by simp [aBin, aStringOp, toList_data, ltB]
theorem ascS_spec (k : Option Bool) (l : List ByteArray) (hk : Enc.Ok k l) (hl : l.length ≤ 1000000) : pureCall E.P (L E) 35 [strE.o k l] = some (.bool (ascB ltB l)) := by
  have ll : ∀ h, lenT .sl h (strE.o k l) = some (.int .i64 l.length) := fun h => Enc.o_len hk
  have il : ∀ (i : Nat) (hi : i < l.length), indexAddrT (.sl 9 ⟨some false, some 1⟩) (strE.o k l) (.int .i64 (i : Int)) = some (cptr (.string l[i])) := fun i hi => Enc.index_o hk hi
  generalize strE.o k l = VL at *
  rw [pureCall_fn F35 rfl]
  simp -implicitDefEqProofs [r35, p35]
  rw [LL_for (γ := Unit) (l.drop 1) () (fun i _ => [(3, .int .i64 ((i : Int) + 1))]) (fun _ _ => []) (fun i rest _ => if ascB ltB (l.drop i) then (.exit 0, [(3, undef)], []) else (.ret, [(2, .bool false), (3, undef)], [])) (fun _ _ => True) (by rw [List.length_drop]; omega) trivial]
  · by_cases q : ascB ltB l = true
    · simp -implicitDefEqProofs [k35_2, q]
    · simp -implicitDefEqProofs [k35_2, q]
  · simp -implicitDefEqProofs [k35_2]
  · rfl
  · intro nx i c hi _
    rw [List.length_drop] at hi
    have h1 : ¬ ((i : Int) + 1 < l.length) := by omega
    have e : ascB ltB (l.drop i) = true := by
      have : (l.drop i).length ≤ 1 := by rw [List.length_drop]; omega
      match hd : l.drop i, this with
      | [], _ => rfl
      | [_], _ => rfl
      | _ :: _ :: _, h => simp at h
    simp -implicitDefEqProofs [r35_2, k35_2, ll, h1, e, trim_le]
  · intro nx i v rest c hi hv hd hw _ ih
    have ih := ih () trivial
    rw [List.length_drop] at hi
    have h1 : ((i : Int) + 1 < l.length) := by omega
    have x1 := il i (by omega)
    have x2 := il (i + 1) (by omega)
    have w1 : IntKind.i64.wrap (i : Int) = (i : Int) := wrap64 (by omega) (by omega)
    have w2 : IntKind.i64.wrap ((i : Int) + 1 + 1) = (i : Int) + 1 + 1 := wrap64 (by omega) (by omega)
    have ec : (((i + 1 : Nat) : Int)) = (i : Int) + 1 := by omega
    rw [ec] at ih x2
    have e : ascB ltB (l.drop i) = (ltB l[i] l[i + 1] && ascB ltB (l.drop (i + 1))) := by
      rw [List.drop_eq_getElem_cons (show i < l.length by omega), List.drop_eq_getElem_cons (show i + 1 < l.length by omega)]
      rfl
    rw [e]
    simp -implicitDefEqProofs [k35_2] at ih
    generalize l[i] = a at *
    generalize l[i + 1] = b at *
    by_cases q : ltB a b = true
    · simp -implicitDefEqProofs [r35_2, k35_2, ll, h1, x1, x2, w1, w2, q, bin_geq_str, trim_le, ih]
    · simp -implicitDefEqProofs [r35_2, k35_2, ll, h1, x1, x2, w1, q, bin_geq_str, trim_le]
end Go.Proofs.YtgefjhjmkejjbaaDoor.Bm
namespace Go.Proofs.YtgefjhjmkejjbaaDoor.Bm
open Go Go.RowKit
open Co (ltB)
def idxB {α : Type} (f : α → Bool) : List α → Int → Int
  | [], _ => -1
  | a :: l, i => if f a = true then i else idxB f l (i + 1)
theorem idxB_cons {α : Type} (f : α → Bool) (a : α) (l : List α) (i : Int) : idxB f (a :: l) i = if f a = true then i else idxB f l (i + 1) := rfl
theorem idxB_any {α : Type} (f : α → Bool) : ∀ (l : List α) (i : Int), 0 ≤ i → (l.any f = true → i ≤ idxB f l i) ∧ (l.any f = false → idxB f l i = -1)
  | [], _, _ => ⟨fun h => absurd h (by simp), fun _ => rfl⟩
  | a :: l, i, hi => by
    rw [idxB_cons, List.any_cons]
    have ih := idxB_any f l (i + 1) (by omega)
    by_cases h : f a = true
    · rw [if_pos h, h]; exact ⟨fun _ => Int.le_refl _, fun q => absurd q (by simp)⟩
    · rw [if_neg h, Bool.eq_false_iff.2 h, Bool.false_or]
      exact ⟨fun q => by have := ih.1 q; omega, ih.2⟩
theorem idxB_pos {α : Type} (f : α → Bool) (l : List α) : decide (0 ≤ idxB f l 0) = l.any f := by
  have h := idxB_any f l 0 (Int.le_refl _)
  cases q : l.any f
  · rw [h.2 q]; rfl
  · exact decide_eq_true (h.1 q)
def Rd (f : FuncId) (args : List Value) (h : Heap) (v : Value) : Prop := ∀ lo st, retCall E (L E) lo st f args h = some (v, h)
def Cl (F : Value) (args : List Value) (h : Heap) (v : Value) : Prop := ∀ lo st, aCall E (L E) lo st F args h = some (v, h)
theorem Cl.of {f : FuncId} {x y : Array Value} {args : List Value} {h : Heap} {v : Value} (k : Rd f (x.toList ++ args ++ y.toList) h v) : Cl (.func (.func f) x y) args h v := fun lo st => k lo st
theorem indexFS (k : Option Bool) (l : List ByteArray) (hk : Enc.Ok k l) (hl : l.length ≤ 1000000) (F : Value) (p : ByteArray → Bool) (h : Heap) (hF : ∀ z ∈ l, Cl F [.string z] h (.bool (p z))) : Rd 50 [strE.o k l, F] h (.int .i64 (idxB p l 0)) := by
  intro lo st
  have ll : ∀ h, lenT .sl h (strE.o k l) = some (.int .i64 l.length) := fun h => Enc.o_len hk
  have il : ∀ (i : Nat) (hi : i < l.length), indexAddrT (.sl 9 ⟨some false, some 1⟩) (strE.o k l) (.int .i64 (i : Int)) = some (cptr (.string l[i])) := fun i hi => Enc.index_o hk hi
  generalize strE.o k l = VL at *
  rw [ret5 m50, L_fn F50 rfl]
  simp -implicitDefEqProofs [r50, p50, ll]
  rw [LL_for (γ := Unit) l () (fun i _ => [(8, .int .i64 i)]) (fun _ _ => h) (fun i rest _ => if idxB p rest i = -1 then (.exit 0, [(8, undef)], h) else (.ret, [(4, .int .i64 (idxB p rest i)), (8, undef)], h)) (fun _ _ => True) (by omega) trivial]
  · rw [show ((0 : Nat) : Int) = 0 from rfl]
    by_cases q : idxB p l 0 = -1
    · simp -implicitDefEqProofs [k50_2, q, trim_le, frz_set8]
    · simp -implicitDefEqProofs [k50_2, q, trim_le, frz_set8]
  · simp -implicitDefEqProofs [k50_2]
  · rfl
  · intro nx i c hi _
    have e : ∀ z, idxB p [] z = -1 := fun _ => rfl
    simp -implicitDefEqProofs [r50_2, k50_2, hi, e, trim_le]
  · intro nx i v rest c hi hv hd hw _ ih
    have ih := ih () trivial
    have hi2 : ((i : Int) < l.length) := by omega
    have x1 := il i hi
    have cl := hF v (by rw [← hv]; exact List.getElem_mem hi)
    unfold Cl at cl
    rw [hv] at x1
    have e2 : (((i + 1 : Nat) : Int)) = (i : Int) + 1 := by omega
    rw [e2] at ih
    rw [idxB_cons]
    simp -implicitDefEqProofs [k50_2] at ih
    by_cases he : p v = true
    · have hn : ¬ ((i : Int) = -1) := by omega
      rw [he] at cl
      simp -implicitDefEqProofs [r50_2, k50_2, hi2, x1, hn, cl, he, trim_le]
    · have he2 : p v = false := by simpa using he
      rw [he2] at cl
      simp -implicitDefEqProofs [r50_2, k50_2, hi2, x1, cl, he2, hw, trim_le]
      exact ih
theorem containsFS (k : Option Bool) (l : List ByteArray) (hk : Enc.Ok k l) (hl : l.length ≤ 1000000) (F : Value) (p : ByteArray → Bool) (h : Heap) (hF : ∀ z ∈ l, Cl F [.string z] h (.bool (p z))) : Rd 31 [strE.o k l, F] h (.bool (l.any p)) := by
  intro lo st
  have hi := indexFS k l hk hl F p h hF
  unfold Rd at hi
  rw [← idxB_pos p l]
  generalize strE.o k l = VL at *
  rw [ret5 m31, L_fn F31 rfl]
  simp -implicitDefEqProofs [r31, p31, hi, trim_le, frz_set8]
theorem indexFI (k : Option Bool) (l : List Int) (hk : Enc.Ok k l) (hl : l.length ≤ 1000000) (F : Value) (p : Int → Bool) (h : Heap) (hF : ∀ z ∈ l, Cl F [.int .i64 z] h (.bool (p z))) : Rd 85 [intE.o k l, F] h (.int .i64 (idxB p l 0)) := by
  intro lo st
  have ll : ∀ h, lenT .sl h (intE.o k l) = some (.int .i64 l.length) := fun h => Enc.o_len hk
  have il : ∀ (i : Nat) (hi : i < l.length), indexAddrT (.sl 3 ⟨some false, some 1⟩) (intE.o k l) (.int .i64 (i : Int)) = some (cptr (.int .i64 l[i])) := fun i hi => Enc.index_o hk hi
  generalize intE.o k l = VL at *
  rw [ret5 m85, L_fn F85 rfl]
  simp -implicitDefEqProofs [r85, p85, ll]
  rw [LL_for (γ := Unit) l () (fun i _ => [(8, .int .i64 i)]) (fun _ _ => h) (fun i rest _ => if idxB p rest i = -1 then (.exit 0, [(8, undef)], h) else (.ret, [(4, .int .i64 (idxB p rest i)), (8, undef)], h)) (fun _ _ => True) (by omega) trivial]
  · rw [show ((0 : Nat) : Int) = 0 from rfl]
    by_cases q : idxB p l 0 = -1
    · simp -implicitDefEqProofs [k85_2, q, trim_le, frz_set8]
    · simp -implicitDefEqProofs [k85_2, q, trim_le, frz_set8]
  · simp -implicitDefEqProofs [k85_2]
  · rfl
  · intro nx i c hi _
    have e : ∀ z, idxB p [] z = -1 := fun _ => rfl
    simp -implicitDefEqProofs [r85_2, k85_2, hi, e, trim_le]
  · intro nx i v rest c hi hv hd hw _ ih
    have ih := ih () trivial
    have hi2 : ((i : Int) < l.length) := by omega
    have x1 := il i hi
    have cl := hF v (by rw [← hv]; exact List.getElem_mem hi)
    unfold Cl at cl
    rw [hv] at x1
    have e2 : (((i + 1 : Nat) : Int)) = (i : Int) + 1 := by omega
    rw [e2] at ih
    rw [idxB_cons]
    simp -implicitDefEqProofs [k85_2] at ih
    by_cases he : p v = true
    · have hn : ¬ ((i : Int) = -1) := by omega
      rw [he] at cl
      simp -implicitDefEqProofs [r85_2, k85_2, hi2, x1, hn, cl, he, trim_le]
    · have he2 : p v = false := by simpa using he
      rw [he2] at cl
      simp -implicitDefEqProofs [r85_2, k85_2, hi2, x1, cl, he2, hw, trim_le]
      exact ih
theorem containsFI (k : Option Bool) (l : List Int) (hk : Enc.Ok k l) (hl : l.length ≤ 1000000) (F : Value) (p : Int → Bool) (h : Heap) (hF : ∀ z ∈ l, Cl F [.int .i64 z] h (.bool (p z))) : Rd 62 [intE.o k l, F] h (.bool (l.any p)) := by
  intro lo st
  have hi := indexFI k l hk hl F p h hF
  unfold Rd at hi
  rw [← idxB_pos p l]
  generalize intE.o k l = VL at *
  rw [ret5 m62, L_fn F62 rfl]
  simp -implicitDefEqProofs [r62, p62, hi, trim_le, frz_set8]
theorem index_strs (x : Option Bool) (l : List ByteArray) (z : ByteArray) (hx : Enc.Ok x l) (hl : l.length ≤ 1000000) : pureCall E.P (L E) 51 [strE.o x l, .string z] = some (.int .i64 (idxB (fun a => decide (z = a)) l 0)) := by
  have ll : ∀ h, lenT .sl h (strE.o x l) = some (.int .i64 l.length) := fun h => Enc.o_len hx
  have il : ∀ (i : Nat) (hi : i < l.length), indexAddrT (.sl 9 ⟨some false, some 1⟩) (strE.o x l) (.int .i64 (i : Int)) = some (cptr (.string l[i])) := fun i hi => Enc.index_o hx hi
  generalize strE.o x l = VL at *
  rw [pureCall_fn F51 rfl]
  generalize hf : (fun a => decide (z = a)) = f
  simp -implicitDefEqProofs [r51, p51, ll]
  rw [LL_for (γ := Unit) l () (fun i _ => [(8, .int .i64 i)]) (fun _ _ => []) (fun i rest _ => if idxB f rest i = -1 then (.exit 0, [(8, undef)], []) else (.ret, [(4, .int .i64 (idxB f rest i)), (8, undef)], [])) (fun _ _ => True) (by omega) trivial]
  · rw [show ((0 : Nat) : Int) = 0 from rfl]
    by_cases q : idxB f l 0 = -1
    · simp -implicitDefEqProofs [k51_2, q]
    · simp -implicitDefEqProofs [k51_2, q]
  · simp -implicitDefEqProofs [k51_2]
  · rfl
  · intro nx i c hi _
    have e : ∀ z, idxB f [] z = -1 := fun _ => rfl
    simp -implicitDefEqProofs [r51_2, k51_2, hi, e, trim_le]
  · intro nx i v rest c hi hv hd hw _ ih
    have ih := ih () trivial
    have hi2 : ((i : Int) < l.length) := by omega
    have x1 := il i hi
    rw [hv] at x1
    have e2 : (((i + 1 : Nat) : Int)) = (i : Int) + 1 := by omega
    rw [e2] at ih
    rw [idxB_cons]
    simp -implicitDefEqProofs [k51_2] at ih
    have ef : f v = decide (z = v) := by rw [← hf]
    rw [ef]
    by_cases he : z = v
    · have hn : ¬ ((i : Int) = -1) := by omega
      subst he
      simp -implicitDefEqProofs [r51_2, k51_2, hi2, x1, hn, trim_le]
    · simp -implicitDefEqProofs [r51_2, k51_2, hi2, x1, he, hw, trim_le]
      exact ih
theorem contains_strs (x : Option Bool) (l : List ByteArray) (z : ByteArray) (hx : Enc.Ok x l) (hl : l.length ≤ 1000000) : pureCall E.P (L E) 33 [strE.o x l, .string z] = some (.bool (l.any fun a => decide (z = a))) := by
  have hi := index_strs x l z hx hl
  have rf : ∀ h, reify E.P 8 h (strE.o x l) = some (strE.o x l) := fun h => Enc.o_reify
  rw [← idxB_pos (fun a => decide (z = a)) l]
  generalize strE.o x l = VL at *
  rw [pureCall_fn F33 rfl]
  simp -implicitDefEqProofs [r33, p33, ret0 m51, rf, hi]
end Go.Proofs.YtgefjhjmkejjbaaDoor.Bm
namespace Go.Proofs.YtgefjhjmkejjbaaDoor.Bm
open Go Go.RowKit
open Co (ltB rem maskF)
def setV (a : Nat) : Value := .int .u64 (a : Int)
theorem wrapU {m : Nat} (h : m < 2 ^ 64) : IntKind.u64.wrap (m : Int) = (m : Int) := by
  unfold IntKind.wrap
  simp [IntKind.bits, IntKind.signed]
  omega
theorem ofI (a : Nat) : BitVec.ofInt 64 (a : Int) = BitVec.ofNat 64 a := BitVec.ofInt_natCast 64 a
theorem bits_lt {a i : Nat} (h : a < 2 ^ 64) (hi : a.testBit i = true) : i < 64 := by
  apply Nat.lt_of_not_le
  intro h2
  rw [Nat.testBit_lt_two_pow (Nat.lt_of_lt_of_le h (Nat.pow_le_pow_right (by omega) h2))] at hi
  cases hi
theorem bit_of {a : Nat} (h : a < 2 ^ 64) (i : Nat) : (BitVec.ofNat 64 a).getLsbD i = a.testBit i := by
  rw [BitVec.getLsbD_ofNat]
  cases q : a.testBit i
  · rw [Bool.and_false]
  · rw [Bool.and_true, decide_eq_true (bits_lt h q)]
theorem lt_of_bits {a : Nat} (h : ∀ i, 64 ≤ i → a.testBit i = false) : a < 2 ^ 64 := Nat.lt_pow_two_of_testBit a h
theorem high {a i : Nat} (h : a < 2 ^ 64) (hi : 64 ≤ i) : a.testBit i = false := by
  cases q : a.testBit i
  · rfl
  · exact absurd (bits_lt h q) (by omega)
theorem and_lt {a b : Nat} (h : a < 2 ^ 64) : a &&& b < 2 ^ 64 := lt_of_bits fun i hi => by rw [Nat.testBit_and, high h hi, Bool.false_and]
theorem or_lt {a b : Nat} (h : a < 2 ^ 64) (h2 : b < 2 ^ 64) : a ||| b < 2 ^ 64 := lt_of_bits fun i hi => by rw [Nat.testBit_or, high h hi, high h2 hi]; rfl
theorem rem_lt {a b : Nat} (h : a < 2 ^ 64) : rem a b < 2 ^ 64 := lt_of_bits fun i hi => by rw [Co.rem_bit, high h hi, Bool.false_and]
theorem bin_andU {P : Program} {t : TypeId} {a b : Nat} (h : a < 2 ^ 64) (h2 : b < 2 ^ 64) : aBin P .and t (setV a) (setV b) = some (setV (a &&& b)) := by
  show some (Value.int .u64 (IntKind.u64.wrap ((BitVec.ofInt 64 (a : Int) &&& BitVec.ofInt 64 (b : Int)).toNat : Nat))) = _
  have e : (BitVec.ofInt 64 (a : Int) &&& BitVec.ofInt 64 (b : Int)).toNat = a &&& b := by
    rw [ofI, ofI, BitVec.toNat_and, BitVec.toNat_ofNat, BitVec.toNat_ofNat, Nat.mod_eq_of_lt h, Nat.mod_eq_of_lt h2]
  rw [e, wrapU (and_lt h)]; rfl
theorem bin_orU {P : Program} {t : TypeId} {a b : Nat} (h : a < 2 ^ 64) (h2 : b < 2 ^ 64) : aBin P .or t (setV a) (setV b) = some (setV (a ||| b)) := by
  show some (Value.int .u64 (IntKind.u64.wrap ((BitVec.ofInt 64 (a : Int) ||| BitVec.ofInt 64 (b : Int)).toNat : Nat))) = _
  have e : (BitVec.ofInt 64 (a : Int) ||| BitVec.ofInt 64 (b : Int)).toNat = a ||| b := by
    rw [ofI, ofI, BitVec.toNat_or, BitVec.toNat_ofNat, BitVec.toNat_ofNat, Nat.mod_eq_of_lt h, Nat.mod_eq_of_lt h2]
  rw [e, wrapU (or_lt h h2)]; rfl
theorem bin_remU {P : Program} {t : TypeId} {a b : Nat} (h : a < 2 ^ 64) (h2 : b < 2 ^ 64) : aBin P .andNot t (setV a) (setV b) = some (setV (rem a b)) := by
  show some (Value.int .u64 (IntKind.u64.wrap ((BitVec.ofInt 64 (a : Int) &&& ~~~ BitVec.ofInt 64 (b : Int)).toNat : Nat))) = _
  have e : (BitVec.ofInt 64 (a : Int) &&& ~~~ BitVec.ofInt 64 (b : Int)).toNat = rem a b := by
    apply Nat.eq_of_testBit_eq
    intro i
    rw [BitVec.testBit_toNat, BitVec.getLsbD_and, BitVec.getLsbD_not, ofI, ofI, bit_of h, bit_of h2, Co.rem_bit]
    cases q : a.testBit i
    · rfl
    · rw [decide_eq_true (bits_lt h q)]; simp
  rw [e, wrapU (rem_lt h)]; rfl
theorem bin_shlU {P : Program} {t : TypeId} {n : Nat} (h : n < 64) : aBin P .shl t (setV 1) (.int .i64 (n : Int)) = some (setV (2 ^ n)) := by
  show (if (n : Int) < 0 then none else some (Value.int .u64 (IntKind.u64.wrap (((1 : Nat) : Int) * 2 ^ (min (n : Int).toNat 64))))) = _
  rw [if_neg (by omega), Int.toNat_natCast, Nat.min_eq_left (by omega), Int.natCast_one, Int.one_mul]
  have e : (2 : Int) ^ n = ((2 ^ n : Nat) : Int) := by rw [Int.natCast_pow]; rfl
  rw [e, wrapU (Nat.pow_lt_pow_right (by omega) h)]; rfl
theorem bin_shrU {P : Program} {t : TypeId} {a n : Nat} (h : n < 64) : aBin P .shr t (setV a) (.int .i64 (n : Int)) = some (setV (a >>> n)) := by
  show (if (n : Int) < 0 then none else some (Value.int .u64 (Int.fdiv (a : Int) (2 ^ (min (n : Int).toNat 64))))) = _
  rw [if_neg (by omega), Int.toNat_natCast, Nat.min_eq_left (by omega)]
  have e : (2 : Int) ^ n = ((2 ^ n : Nat) : Int) := by rw [Int.natCast_pow]; rfl
  rw [e, Nat.shiftRight_eq_div_pow]
  have e2 : Int.fdiv (a : Int) ((2 ^ n : Nat) : Int) = ((a / 2 ^ n : Nat) : Int) := by
    rw [Int.fdiv_eq_ediv_of_nonneg _ (Int.natCast_nonneg _)]
    exact (Int.natCast_ediv a (2 ^ n)).symm
  rw [e2]; rfl
theorem bit_at (a n : Nat) : (a >>> n) &&& 1 = if a.testBit n = true then 1 else 0 := by
  rw [Nat.testBit, Nat.and_one_is_mod, Nat.one_and_eq_mod_two]
  have := Nat.mod_two_eq_zero_or_one (a >>> n)
  rcases this with h | h <;> rw [h] <;> rfl
theorem mk_eq {P : Program} {t : TypeId} {a b : Nat} : aBin P .eql t (setV a) (setV b) = some (.bool (decide (a = b))) := by
  show some (Value.bool ((a : Int) == (b : Int))) = _
  congr 2
  rw [Bool.eq_iff_iff]; simp; omega
theorem mk_neq {P : Program} {t : TypeId} {a b : Nat} : aBin P .neq t (setV a) (setV b) = some (.bool (!decide (a = b))) := by
  show some (Value.bool ((a : Int) != (b : Int))) = _
  congr 2
  rw [Bool.eq_iff_iff]; simp; omega
theorem mk_reify {P : Program} {n : Nat} {h : Heap} {a : Nat} : reify P (n + 1) h (setV a) = some (setV a) := rfl
end Go.Proofs.YtgefjhjmkejjbaaDoor.Bm
namespace Go.Proofs.YtgefjhjmkejjbaaDoor.Bm
open Go Go.RowKit
open Co (ltB rem maskF)
abbrev ptr (b : Nat) : Value := .pointer (some ⟨b, 0, none⟩)
def nilT (v : Value) (h : Heap) : Res := match v with
  | .pointer (some a) => some (.pointer (some a), h)
  | .func (.yield 2) a b => some (.func (.yield 2) a b, h)
  | .func (.func f) fst cap => some (.func (.func f) fst cap, h)
  | _ => none
theorem rop_nilT {E : Env} {C : Callee} {lo : Nat} {st : Bool} {ρ : Operand → Value} {h : Heap} {x : Operand} : ropR E C lo st (.nilCheck x) ρ h = nilT (ρ x) h := rfl
theorem nilT_ptr {a : Addr} {h : Heap} : nilT (.pointer (some a)) h = some (.pointer (some a), h) := rfl
theorem uStr : E.P.underlying 9 = some .string := by kernel_rfl
theorem ba_beq (a b : ByteArray) : (a == b) = decide (a = b) := by
  rw [Bool.eq_iff_iff, decide_eq_true_iff]
  obtain ⟨x⟩ := a
  obtain ⟨y⟩ := b
  show (x == y) = true ↔ _
  rw [beq_iff_eq, ByteArray.mk.injEq]
theorem strK : KeyEnc E.P 9 Value.string where
  flat _ := rfl
  ok s := by unfold keyOk; rw [uStr]
  eq a b := by
    unfold aKeyEq
    rw [uStr]
    show some (a == b) = _
    rw [ba_beq]
  bits s := by
    show (s == s) = true
    rw [ba_beq, decide_eq_true rfl]
def als (A : List (Option Bool × List ByteArray)) : List (List ByteArray) := A.map (·.2)
structure Pb (h : Heap) (b r m : Nat) (K : Option Bool) (A : List (Option Bool × List ByteArray)) (ns : List ByteArray) : Prop where
  obj : h[b]? = some (.cells 63 [listE.o K A, Enc.sl r ns, .map (some m)] 0)
  row : h[r]? = some (strE.row 9 ns)
  map : ∃ tb, h[m]? = some (mapB Value.string tb) ∧ ∀ s, (aget tb s).getD (setV 0) = setV (maskF (als A) s)
  k : Enc.Ok K A
  ka : ∀ a ∈ A, Enc.Ok a.1 a.2
  few : A.length ≤ 8
  small : ∀ a ∈ A, a.2.length ≤ 12
  lot : ns.length ≤ 96
section
variable {h : Heap} {b r m : Nat} {K : Option Bool} {A : List (Option Bool × List ByteArray)} {ns : List ByteArray}
theorem Pb.of (p : Pb h b r m K A ns) {h' : Heap} (hb : h'[b]? = h[b]?) (hr : h'[r]? = h[r]?) (hm : h'[m]? = h[m]?) : Pb h' b r m K A ns :=
  ⟨by rw [hb]; exact p.obj, by rw [hr]; exact p.row, by obtain ⟨tb, h1, h2⟩ := p.map; exact ⟨tb, by rw [hm]; exact h1, h2⟩, p.k, p.ka, p.few, p.small, p.lot⟩
theorem get_app {h e : Heap} {o : Nat} {x : AObj} (ho : h[o]? = some x) : (h ++ e)[o]? = some x := by
  rw [List.getElem?_append_left (List.getElem?_eq_some_iff.1 ho).1]; exact ho
theorem Pb.app (p : Pb h b r m K A ns) (e : Heap) : Pb (h ++ e) b r m K A ns :=
  ⟨get_app p.obj, get_app p.row, by obtain ⟨tb, h1, h2⟩ := p.map; exact ⟨tb, get_app h1, h2⟩, p.k, p.ka, p.few, p.small, p.lot⟩
theorem mask_small (A : List (Option Bool × List ByteArray)) (hA : A.length ≤ 8) (s : ByteArray) : maskF (als A) s < 2 ^ 64 := by
  refine lt_of_bits fun i hi => ?_
  cases q : (maskF (als A) s).testBit i
  · rfl
  · have := Co.mask_lt _ _ q
    unfold als at this
    rw [List.length_map] at this
    omega
theorem Pb.look (p : Pb h b r m K A ns) (s : ByteArray) : lookupT E.P (some ⟨9, some (.int .u64 0)⟩) h (.map (some m)) (.string s) false = some (setV (maskF (als A) s)) := by
  obtain ⟨tb, h1, h2⟩ := p.map
  have h2 := h2 s
  cases hg : aget tb s with
  | none =>
    rw [hg] at h2
    rw [lookup_none (zv := .int .u64 0) strK rfl h1 hg, ← h2]; rfl
  | some v =>
    rw [hg] at h2
    have h2 : v = setV (maskF (als A) s) := h2
    rw [lookup_some (z := some (.int .u64 0)) strK rfl h1 hg, h2]; rfl
theorem Pb.l0 (p : Pb h b r m K A ns) {sz : Option Nat} : loadT ⟨some false, sz⟩ h (ptr b) = some (listE.o K A) := obj_load p.obj rfl
theorem Pb.l1 (p : Pb h b r m K A ns) {sz : Option Nat} : loadT ⟨some false, sz⟩ h (.pointer (some ⟨b, 1, none⟩)) = some (Enc.sl r ns) := obj_load p.obj rfl
theorem Pb.l2 (p : Pb h b r m K A ns) {sz : Option Nat} : loadT ⟨some false, sz⟩ h (.pointer (some ⟨b, 2, none⟩)) = some (.map (some m)) := obj_load p.obj rfl
abbrev Box (h : Heap) (x : Nat) (t : TypeId) (v : Value) : Prop := h[x]? = some (.cells t [v] 0)
theorem box_load {x : Nat} {t : TypeId} {v : Value} (hx : Box h x t v) {sz : Option Nat} : loadT ⟨some false, sz⟩ h (ptr x) = some v := obj_load hx rfl
theorem apart1_spec (p : Pb h b r m K A ns) {x y k : Nat} (hx : Box h x 43 (ptr b)) (hy : Box h y 3 (.int .i64 (k : Int))) (hk : k < 64) (s : ByteArray) :
    Rd 86 [.string s, ptr x, ptr y] h (.bool ((maskF (als A) s).testBit k)) := by
  intro lo st
  have l2 := fun sz => p.l2 (sz := sz)
  have lk := p.look s
  have lx := fun sz => box_load hx (sz := sz)
  have ly := fun sz => box_load hy (sz := sz)
  have ms := mask_small A p.few s
  have b1 := bin_shrU (P := E.P) (t := 58) (a := maskF (als A) s) hk
  have ha : maskF (als A) s >>> k < 2 ^ 64 := Nat.lt_of_le_of_lt (by rw [Nat.shiftRight_eq_div_pow]; exact Nat.div_le_self _ _) ms
  have b2 := bin_andU (P := E.P) (t := 58) (a := maskF (als A) s >>> k) (b := 1) ha (by omega)
  have b3 := mk_eq (P := E.P) (t := 58) (a := (maskF (als A) s >>> k) &&& 1) (b := 1)
  rw [bit_at] at b2 b3
  have e1 : setV 1 = .int .u64 1 := rfl
  rw [e1] at b2 b3
  rw [ret5 m86, L_fn F86 rfl]
  simp -implicitDefEqProofs [r86, p86, rop_nilT, nilT_ptr, lx, ly, l2, lk, b1, b2, b3, trim_le, frz_set8]
end
end Go.Proofs.YtgefjhjmkejjbaaDoor.Bm
namespace Go.Proofs.YtgefjhjmkejjbaaDoor.Bm
open Go Go.RowKit
open Co (ltB rem maskF apartF)
def WF (h : Heap) : Prop := h.all (belowO h.length) = true
theorem trim_wf {h e : Heap} (hw : WF h) {v : Value} (hv : below depth h.length v = true) : trim h.length [v] (h ++ e) = h := by
  unfold Bm.trim
  split
  · rename_i q
    rw [List.length_append] at q
    have : e = [] := List.eq_nil_of_length_eq_zero (by omega)
    rw [this, List.append_nil]
  · rw [List.take_left, if_pos]
    rw [Bool.and_eq_true]
    exact ⟨by simp [hv], hw⟩
section
variable {h : Heap} {b r m : Nat} {K : Option Bool} {A : List (Option Bool × List ByteArray)} {ns : List ByteArray}
theorem alt_at {A : List (Option Bool × List ByteArray)} {i : Nat} (hi : i < A.length) : (als A).getD i [] = A[i].2 := by
  unfold als
  simp [List.getD, hi]
theorem apart_spec (p : Pb h b r m K A ns) (hw : WF h) {i k : Nat} (hi : i < A.length) (hk : k < 64) :
    Rd 64 [ptr b, .int .i64 (i : Int), .int .i64 (k : Int)] h (.bool (apartF (als A) i k)) := by
  intro lo st
  have pe := p.app [.cells 43 [ptr b] 0, .cells 3 [.int .i64 (k : Int)] 0]
  have hx : Box (h ++ [.cells 43 [ptr b] 0, .cells 3 [.int .i64 (k : Int)] 0]) h.length 43 (ptr b) := by
    unfold Box; rw [List.getElem?_append_right (Nat.le_refl _)]; simp
  have hy : Box (h ++ [.cells 43 [ptr b] 0, .cells 3 [.int .i64 (k : Int)] 0]) (h.length + 1) 3 (.int .i64 (k : Int)) := by
    unfold Box; rw [List.getElem?_append_right (Nat.le_add_right _ _)]; simp
  have cf := containsFS A[i].1 A[i].2 (p.ka _ (List.getElem_mem hi)) (Nat.le_trans (p.small _ (List.getElem_mem hi)) (by omega)) (.func (.func 86) ⟨[]⟩ ⟨[ptr h.length, ptr (h.length + 1)]⟩)
    (fun s => (maskF (als A) s).testBit k) _ fun s _ => Cl.of (apart1_spec pe hx hy hk s)
  unfold Rd at cf
  have l0 := fun sz => pe.l0 (sz := sz)
  have lx := fun sz => box_load hx (sz := sz)
  have ix := Enc.index_o (O := listE) (t := 23) (k := .i64) p.k hi
  have le : ∀ h sz, loadT ⟨some false, sz⟩ h (cptr (listE.e A[i])) = some (strE.o A[i].1 A[i].2) := fun h sz => Enc.load_e (O := listE) _
  have tw := fun e v => trim_wf (e := e) hw (v := .bool v) rfl
  unfold apartF
  rw [alt_at hi]
  generalize listE.o K A = VA at *
  generalize cptr (listE.e A[i]) = VE at *
  generalize strE.o A[i].1 A[i].2 = VS at *
  rw [ret5 m64, L_fn F64 rfl]
  simp -implicitDefEqProofs [r64, p64, rop_nilT, nilT_ptr, lx, l0, ix, le, cf, tw, frz_set8]
end
end Go.Proofs.YtgefjhjmkejjbaaDoor.Bm
