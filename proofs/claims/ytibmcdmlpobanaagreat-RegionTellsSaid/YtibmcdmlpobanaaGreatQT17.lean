/-
 A copy of a list: of an empty one it is not known whether it is nil. Conditions: the function's contract at lists of no elements.
-/
import Derived.Test.YtibmcdmlpobanaaGreatQT16
import Derived.Test.YtibmcdmlpobanaaGreatQT15
namespace Go.Proofs.YtibmcdmlpobanaaGreat.Bm
open Go Go.RowKit
structure Rec (α : Type) where
 enc : α → List Value
 m : Nat
 len : ∀ a, (enc a).length = m + 1
 set : ∀ a, (enc a).all (settled 8) = true
 bel : ∀ a n, (enc a).all (below 8 n) = true
namespace Rec
variable {α : Type} (R : Rec α)
def k : Nat := R.m + 1
def val (a : α) : Value := .agg ⟨R.enc a⟩
def vals (l : List α) : List Value := l.map R.val
def flat (l : List α) : List Value := l.flatMap R.enc
def row (t : TypeId) (l : List α) : AObj := .cells t (R.flat l) (R.m + 1)
def sl (b : Nat) (l : List α) : Value := .slice (some ⟨b, 0, some (l.length * (R.m + 1))⟩) l.length l.length
variable {R}
theorem vals_len {l : List α} : (R.vals l).length = l.length := List.length_map _
theorem flat_len : ∀ {l : List α}, (R.flat l).length = l.length * (R.m + 1)
 | [] => by simp [flat]
 | a :: l => by
  have := flat_len (l := l)
  show (R.enc a ++ R.flat l).length = (l.length + 1) * (R.m + 1)
  rw [List.length_append, R.len, this, Nat.add_mul]; omega
theorem flat_app {l m : List α} : R.flat (l ++ m) = R.flat l ++ R.flat m := List.flatMap_append
theorem vals_flat (l : List α) : (R.vals l).flatMap cellsL = R.flat l := by
 unfold vals flat
 rw [List.flatMap_map]; rfl
theorem vals_all (l : List α) : (R.vals l).all (fun v => (cellsL v).length == R.m + 1) = true := by
 unfold vals
 rw [List.all_map, List.all_eq_true]
 intro a _
 show ((R.enc a).length == R.m + 1) = true
 rw [R.len]; exact beq_self_eq_true _
theorem vals_agg (l : List α) : ∀ v ∈ R.vals l, ∃ cs, v = .agg ⟨cs⟩ ∧ cs.length = R.m + 1 := by
 intro v hv
 obtain ⟨r, _, rfl⟩ := List.mem_map.1 hv
 exact ⟨R.enc r, rfl, R.len r⟩
theorem flat_set (l : List α) : (R.flat l).all (settled 8) = true := by
 unfold flat
 rw [List.all_flatMap, List.all_eq_true]
 exact fun a _ => R.set a
theorem row_bel {n : Nat} {t : TypeId} (l : List α) : belowO n (R.row t l) = true := by
 show (R.flat l).all (below 8 n) = true
 unfold flat
 rw [List.all_flatMap, List.all_eq_true]
 exact fun a _ => R.bel a n
theorem sl_bel {n d b : Nat} {l : List α} (h : b < n) : below (d + 1) n (R.sl b l) = true := decide_eq_true h
theorem sl_len {h : Heap} {b : Nat} {l : List α} : lenT .sl h (R.sl b l) = some (.int .i64 l.length) := rfl
theorem sl_nil {b : Nat} : R.sl b [] = .slice (some ⟨b, 0, some 0⟩) 0 0 := by unfold sl; simp
theorem tree_len {h : Heap} {x : Bool} {l : List α} : lenT .sl h (lst x (R.vals l)) = some (.int .i64 l.length) := by rw [len_lst, vals_len]
theorem elems {P : Program} {t : TypeId} (hs : szOf P t = some (R.m + 1)) (ha : aggT P t = some true) (l : List α) : elemsOf P t l.length (R.flat l) = some (R.vals l) := by
 unfold elemsOf
 rw [ha, hs]
 have := chunk_flat (vals_agg (R := R) l)
 rw [vals_len, vals_flat] at this
 show some (chunk (R.m + 1) l.length _) = _
 rw [this]
theorem reify_row {P : Program} {h : Heap} {b n : Nat} {t : TypeId} {l : List α} (hob : h[b]? = some (R.row t l)) (hs : szOf P t = some (R.m + 1)) (ha : aggT P t = some true) : reify P (n + 1) h (R.sl b l) = some (lst false (R.vals l)) := by
 unfold sl
 rw [reify_slice]
 by_cases h0 : l.length = 0
 ·have : l = [] := List.eq_nil_of_length_eq_zero h0
  subst this; rfl
 ·rw [if_neg h0]
  show reifyS P n h h[b]? _ _ = _
  rw [hob]
  show reifyS P n h (some (.cells t (R.flat l) (R.m + 1))) _ _ = _
  rw [reifyS_cells, hs, Option.bind_some, if_pos ⟨by unfold stampOk; rw [flat_len]; simp, by omega, by rw [flat_len]; simp⟩]
  have e : ((R.flat l).drop 0).take (l.length * (R.m + 1)) = R.flat l := by rw [List.drop_zero, List.take_of_length_le (by rw [flat_len]; exact Nat.le_refl _)]
  rw [e, reifyC_set (flat_set l), Option.bind_some, elems hs ha]; rfl
theorem reifyR_row {P : Program} {h : Heap} {b : Nat} {t : TypeId} {l : List α} (hob : h[b]? = some (R.row t l)) (hs : szOf P t = some (R.m + 1)) (ha : aggT P t = some true) : reifyR P h (R.sl b l) = some (lst false (R.vals l)) := reify_row hob hs ha
theorem freeze_row {P : Program} {h : Heap} {lo b : Nat} {t : TypeId} {l : List α} (hob : h[b]? = some (R.row t l)) (hs : szOf P t = some (R.m + 1)) (ha : aggT P t = some true) (hlo : lo ≤ b) :
  freezeV P depth lo h (R.sl b l) = some (lst false (R.vals l), if l.length = 0 then h else h.set b .dead) :=
 frz_agg8 (l := R.vals l) hob hs ha hlo (vals_flat l).symm flat_len.symm vals_len.symm (by omega) (vals_agg l) (flat_set l)
theorem cells_tree {h : Heap} {x : Bool} {s : Nat} (hs : s = R.m + 1) (l : List α) : sliceCells h s (lst x (R.vals l)) = some (R.flat l, l.length) := by
 subst hs
 rw [cells_lst (vals_all l), vals_flat, vals_len]
theorem app {el : El} {h : Heap} {lo b : Nat} {t : TypeId} {acc m : List α} {u : Value} (hel : el.size = R.m + 1) (hob : h[b]? = some (R.row t acc)) (hu : sliceCells h el.size u = some (R.flat m, m.length)) (hlo : lo ≤ b) (hb : (acc.length + m.length) * el.bytes ≤ 2 ^ 47) :
  appendT (some el) h lo false (R.sl b acc) u = some (R.sl b (acc ++ m), h.set b (R.row t (acc ++ m))) := by
 have hob' : h[b]? = some (.cells t (R.flat acc) (R.m + 1)) := hob
 unfold sl
 rw [append_slice, hu]
 show appS el h lo false _ _ _ h[b]? _ = _
 rw [hob']
 by_cases hm : m.length = 0
 ·have : m = [] := List.eq_nil_of_length_eq_zero hm
  subst this
  have hf : fitsRow h ⟨b, 0, some (acc.length * (R.m + 1))⟩ el.size = true := by
   unfold fitsRow
   show (match h[b]? with | some (.cells _ c g) => _ | _ => false) = true
   rw [hob']
   simp [stampOk, flat_len, hel]
  unfold appS
  simp only [List.append_nil, List.length_nil, Nat.add_zero, Nat.le_refl, if_true, hf, Option.bind_some]
  congr 2
  refine (List.ext_getElem? fun i => ?_)
  rw [List.getElem?_set]
  split
  ·rename_i e; subst e
   split
   ·exact hob
   ·rename_i hlt; rw [List.getElem?_eq_none (by omega)]
  ·rfl
 ·refine (appS_grown (m := m.length) hm flat_len.symm rfl hel flat_len.symm hlo hb).trans ?_
  unfold row
  rw [flat_app, ← flat_app, flat_len, List.length_append]
theorem index_tree {h0 : Nat} {x : Bool} {t : TypeId} {l : List α} {i : Nat} {k : IntKind} (hk : h0 = R.m + 1) (h1 : i < l.length) : indexAddrT (.sl t ⟨some true, some h0⟩) (lst x (R.vals l)) (.int k (i : Int)) = some (cptr (R.val l[i])) := by
 subst hk
 have e : (R.vals l)[i]? = some (R.val l[i]) := by simp [vals, h1]
 rw [index_lst, if_pos (by omega), show ((i : Int)).toNat = i by omega, e, Option.bind_some]
 have hs : (cellsL (R.val l[i])).length = R.m + 1 := R.len _
 rw [if_pos]
 rw [hs]
 have : fitsTT ⟨some true, some (R.m + 1)⟩ (R.val l[i]) = true := fits_ag (by show (R.enc l[i]).length = _; exact R.len _)
 rw [this]; simp
theorem flat_drop : ∀ {l : List α} {i : Nat}, (R.flat l).drop (i * (R.m + 1)) = R.flat (l.drop i)
 | [], i => by simp [flat]
 | a :: l, 0 => by simp
 | a :: l, i + 1 => by
  have := flat_drop (l := l) (i := i)
  show (R.enc a ++ R.flat l).drop _ = R.flat (l.drop i)
  rw [← this, List.drop_append, List.drop_of_length_le (by rw [R.len, Nat.add_mul]; omega), R.len, List.nil_append]
  congr 1
  rw [Nat.add_mul]; omega
theorem flat_at {l : List α} {i : Nat} (h : i < l.length) : ((R.flat l).drop (i * (R.m + 1))).take (R.m + 1) = R.enc l[i] := by
 rw [flat_drop, List.drop_eq_getElem_cons h]
 show (R.enc l[i] ++ R.flat _).take _ = _
 rw [List.take_append, List.take_of_length_le (by rw [R.len]; exact Nat.le_refl _), R.len, Nat.sub_self, List.take_zero, List.append_nil]
theorem flat_get {l : List α} {i j : Nat} (h : i < l.length) (hj : j < R.m + 1) : (R.flat l)[i * (R.m + 1) + j]? = (R.enc l[i])[j]? := by
 rw [← flat_at h, List.getElem?_take, if_pos hj, List.getElem?_drop]
theorem in_row {l : List α} {i : Nat} (h : i < l.length) : i * (R.m + 1) + (R.m + 1) ≤ l.length * (R.m + 1) := by
 have := Nat.mul_le_mul_right (R.m + 1) (show i + 1 ≤ l.length from h)
 rw [Nat.add_mul] at this; omega
def at_ (R : Rec α) (b : Nat) (l : List α) (i j : Nat) : Value := .pointer (some ⟨b, i * (R.m + 1) + j, some (l.length * (R.m + 1))⟩)
theorem index_row {h0 : Nat} {t : TypeId} {g : Option Bool} {b : Nat} {l : List α} {i : Nat} {k : IntKind} (hk : h0 = R.m + 1) (h1 : i < l.length) : indexAddrT (.sl t ⟨g, some h0⟩) (R.sl b l) (.int k (i : Int)) = some (R.at_ b l i 0) := by
 subst hk
 unfold sl
 rw [index_slice, if_pos ⟨by omega, by omega⟩]
 simp [shift, at_]
theorem field_row {b n f : Nat} {l : List α} {i : Nat} {k : TI} {g : Option Bool} : fieldAddrT k (some (f, ⟨g, some (n + 1)⟩)) (R.at_ b l i 0) = some (R.at_ b l i f) := by
 unfold at_
 rw [fieldAddr_ptr]
 simp [shift]
theorem load_row {h : Heap} {b n : Nat} {t : TypeId} {l : List α} {i : Nat} (hn : n = R.m + 1) (hob : h[b]? = some (R.row t l)) (h1 : i < l.length) : loadT ⟨some true, some n⟩ h (R.at_ b l i 0) = some (R.val l[i]) := by
 subst hn
 unfold at_
 rw [load_agg]
 have e : rowOf h ⟨b, i * (R.m + 1) + 0, some (l.length * (R.m + 1))⟩ = some (R.flat l) := by
  unfold rowOf
  show (match h[b]? with | some (.cells _ c g) => _ | _ => none) = _
  rw [hob]
  show (if stampOk _ (R.m + 1) (R.flat l).length = true then some (R.flat l) else none) = _
  rw [if_pos (by unfold stampOk; rw [flat_len]; simp)]
 rw [e, Option.bind_some, if_pos (by rw [flat_len]; exact in_row h1)]
 show some (Value.agg (((R.flat l).drop (i * (R.m + 1) + 0)).take (R.m + 1)).toArray) = _
 simp only [Nat.add_zero]
 rw [flat_at h1]; rfl
theorem load_cell {h : Heap} {b j : Nat} {t : TypeId} {l : List α} {i : Nat} {sz : Option Nat} (hob : h[b]? = some (R.row t l)) (h1 : i < l.length) (hj : j < R.m + 1) : loadT ⟨some false, sz⟩ h (R.at_ b l i j) = (R.enc l[i])[j]? := by
 unfold at_
 rw [load_one]
 have e : rowOf h ⟨b, i * (R.m + 1) + j, some (l.length * (R.m + 1))⟩ = some (R.flat l) := by
  unfold rowOf
  show (match h[b]? with | some (.cells _ c g) => _ | _ => none) = _
  rw [hob]
  show (if stampOk _ (R.m + 1) (R.flat l).length = true then some (R.flat l) else none) = _
  rw [if_pos (by unfold stampOk; rw [flat_len]; simp)]
 rw [e, Option.bind_some]
 exact flat_get h1 hj
theorem flat_put {l : List α} {i j : Nat} {v : Value} {a : α} (h : i < l.length) (hj : j < R.m + 1) (he : (R.enc l[i]).set j v = R.enc a) : (R.flat l).set (i * (R.m + 1) + j) v = R.flat (l.set i a) := by
 induction l generalizing i with
 | nil => simp at h
 | cons x l ih =>
  cases i with
  | zero =>
   show (R.enc x ++ R.flat l).set _ v = R.enc a ++ R.flat l
   rw [Nat.zero_mul, Nat.zero_add, List.set_append_left _ _ (by rw [R.len]; exact hj)]
   congr 1
  | succ i =>
   have h' : i < l.length := by simpa using h
   show (R.enc x ++ R.flat l).set _ v = R.enc x ++ R.flat (l.set i a)
   rw [List.set_append_right _ _ (by rw [R.len, Nat.add_mul]; omega), R.len]
   congr 1
   rw [← ih h' he]
   congr 1
   rw [Nat.add_mul]; omega
theorem store_cell {h : Heap} {b j lo : Nat} {t : TypeId} {l : List α} {i : Nat} {v : Value} {a : α} (hv : cellsOf v = some [v]) (hob : h[b]? = some (R.row t l)) (hlo : lo ≤ b) (h1 : i < l.length) (hj : j < R.m + 1) (he : (R.enc l[i]).set j v = R.enc a) :
  storeT (some 1) h lo v (R.at_ b l i j) = some (h.set b (R.row t (l.set i a))) := by
 unfold at_
 rw [store_ptr, hv, Option.bind_some]
 have hob' : h[b]? = some (.cells t (R.flat l) (R.m + 1)) := hob
 have hin := in_row (R := R) h1
 rw [if_pos (by rfl)]
 unfold wrN
 show (match h[b]? with | some (.cells t c g) => _ | _ => none) = _
 rw [hob']
 show (if _ then _ else none) = _
 rw [if_pos ⟨hlo, by unfold stampOk; rw [flat_len]; simp, by simp, by rw [flat_len]; simp; omega⟩]
 show some (h.set b (.cells t (splice (R.flat l) (i * (R.m + 1) + j) [v]) (R.m + 1))) = _
 rw [splice_one (by rw [flat_len]; omega), flat_put h1 hj he]; rfl
theorem zeros_row {z : Value} {a : α} (hz : z.cells = ⟨R.enc a⟩) (n : Nat) : (zeros z (n * (R.m + 1))).toList = R.flat (List.replicate n a) := by
 apply List.ext_getElem?
 intro i
 unfold zeros
 rw [hz]
 have hl : (R.flat (List.replicate n a)).length = n * (R.m + 1) := by rw [flat_len, List.length_replicate]
 by_cases h : i < n * (R.m + 1)
 ·have hq : i / (R.m + 1) < n := Nat.div_lt_of_lt_mul (by rw [Nat.mul_comm]; exact h)
  have hr : i % (R.m + 1) < R.m + 1 := Nat.mod_lt _ (by omega)
  have e := flat_get (R := R) (l := List.replicate n a) (i := i / (R.m + 1)) (j := i % (R.m + 1)) (by rw [List.length_replicate]; exact hq) hr
  rw [Nat.mul_comm, Nat.div_add_mod, List.getElem_replicate] at e
  rw [e]
  simp [h, R.len, hr]
 ·rw [List.getElem?_eq_none (by simpa using h), List.getElem?_eq_none (by rw [hl]; omega)]
theorem appN {el : El} {h : Heap} {n : Nat} {k : IntKind} {a : α} (hel : el.size = R.m + 1) (hz : el.z.cells = ⟨R.enc a⟩) (h0 : 0 < n) (hb : n * el.bytes ≤ 2 ^ 47) :
  appendNT (some el) h (.slice none 0 0) (.int k (n : Int)) = some (.slice (some ⟨h.length, 0, some (n * (R.m + 1))⟩) n n, h ++ [R.row el.e (List.replicate n a)]) := by
 unfold appendNT
 simp only [Option.bind_some, Int.toNat_natCast]
 rw [if_pos ⟨by omega, hb⟩, hel, zeros_row hz, flat_len, List.length_replicate]
 rfl
theorem app_room {el : El} {h : Heap} {lo b : Nat} {t : TypeId} {l m : List α} {i : Nat} {u : Value} (hel : el.size = R.m + 1) (hob : h[b]? = some (R.row t l)) (hu : sliceCells h el.size u = some (R.flat m, m.length)) (hlo : lo ≤ b) (hi : i + m.length ≤ l.length) :
  appendT (some el) h lo false (.slice (some ⟨b, 0, some (l.length * (R.m + 1))⟩) i l.length) u = some (.slice (some ⟨b, 0, some (l.length * (R.m + 1))⟩) (i + m.length) l.length, h.set b (R.row t (l.take i ++ m ++ l.drop (i + m.length)))) := by
 have hob' : h[b]? = some (.cells t (R.flat l) (R.m + 1)) := hob
 have hf : fitsRow h ⟨b, 0, some (l.length * (R.m + 1))⟩ el.size = true := by
  unfold fitsRow
  show (match h[b]? with | some (.cells _ c g) => _ | _ => false) = true
  rw [hob']
  simp [stampOk, flat_len, hel]
 rw [append_slice, hu]
 show appS el h lo false _ _ _ h[b]? _ = _
 unfold appS
 simp only [Option.bind_some]
 rw [if_pos hi]
 by_cases hm : m.length = 0
 ·have : m = [] := List.eq_nil_of_length_eq_zero hm
  subst this
  rw [if_pos hm, if_pos hf]
  congr 2
  rw [List.append_nil, List.length_nil, Nat.add_zero, List.take_append_drop]
  refine (List.ext_getElem? fun i => ?_)
  rw [List.getElem?_set]
  split
  ·rename_i e; subst e
   split
   ·exact hob
   ·rename_i hlt; rw [List.getElem?_eq_none (by omega)]
  ·rfl
 ·have hml : 0 < (R.flat m).length := by rw [flat_len]; exact Nat.mul_pos (by omega) (by omega)
  rw [if_neg hm, hf]
  simp only [Bool.not_true, Bool.or_false, Bool.false_eq_true, if_false]
  have hin : i * (R.m + 1) + m.length * (R.m + 1) ≤ l.length * (R.m + 1) := by rw [← Nat.add_mul]; exact Nat.mul_le_mul_right _ hi
  unfold wrN
  show Option.map _ (match h[b]? with | some (.cells t c g) => _ | _ => none) = _
  rw [hob']
  show Option.map _ (if _ then _ else none) = _
  rw [if_pos ⟨hlo, by unfold shift stampOk; rw [flat_len]; simp, hml, by unfold shift; rw [flat_len, flat_len, hel]; simp; exact hin⟩]
  show some (_, h.set b (.cells t (splice (R.flat l) (0 + i * el.size) (R.flat m)) (R.m + 1))) = _
  have e : splice (R.flat l) (0 + i * el.size) (R.flat m) = R.flat (l.take i ++ m ++ l.drop (i + m.length)) := by
   unfold splice
   rw [hel, Nat.zero_add, flat_len (l := m), ← Nat.add_mul, flat_drop, flat_app, flat_app]
   congr 2
   have k := congrArg (List.take (i * (R.m + 1))) (show R.flat l = R.flat (l.take i) ++ R.flat (l.drop i) by rw [← flat_app, List.take_append_drop])
   rw [k, List.take_append, List.take_of_length_le (by rw [flat_len, List.length_take]; exact Nat.mul_le_mul_right _ (Nat.min_le_left _ _))]
   have : (R.flat (l.take i)).length = i * (R.m + 1) := by rw [flat_len, List.length_take, Nat.min_eq_left (by omega)]
   rw [this, Nat.sub_self, List.take_zero, List.append_nil]
  rw [e]; rfl
end Rec
end Go.Proofs.YtibmcdmlpobanaaGreat.Bm
namespace Go.Proofs.YtibmcdmlpobanaaGreat.Bm
open Go Go.RowKit
def emptyT : List Value → Bool
 | [.func (.yield k) ⟨[]⟩ ⟨[]⟩] => decide (k < 2)
 | _ => false
def cloG (E₀ : Env) (f : FuncId) : List Value → Heap → Nat → Res := fun args h lo => if emptyT args then some (lst false [], h) else evF E₀ 1 f args h lo
structure CloCon (P : Program) (f : FuncId) : Prop where
 dfd : ∃ fn, P.funcs[f]? = some fn ∧ fn.body.isSome = true
 zero : ∀ (a : Addr) (c : Nat) (w : World), Calls P f #[.slice (some a) 0 c] w fun e w' => ∃ a' c', e = .returned (.slice (some a') 0 c') ∧ Below w.heap.size w w'
 nil : ∀ (w : World), Calls P f #[.slice none 0 0] w fun e w' => e = .returned (.slice none 0 0) ∧ w' = w
section
variable {E E₀ : Env} {B lo : Nat} {M : Mem} {h h' : Heap} {w : World}
theorem HSim.env {E' : Env} (hg : E'.glob = E.glob) (hs : HSim E B M h w) : HSim E' B M h w :=
 ⟨fun g v h => hs.glob g v (by rw [← hg]; exact h), hs.phi, hs.sep, hs.base, hs.dom, hs.obj, hs.mp, hs.inj⟩
theorem lnil_rel (k : Nat) (hk : k < 2) : VRel M (.func (.yield k) ⟨[]⟩ ⟨[]⟩) (.slice none 0 0) := .tree _ _ _ _ (.lnil k hk)
theorem lzero_rel (a : Addr) (c : Nat) : VRel M (lst false []) (.slice (some a) 0 c) :=
 .tree _ _ _ _ (.lst 0 (by decide) [] a c 0 (fun _ _ => undef) (Nat.zero_le _) (fun h => absurd h (by decide)) (.inl rfl) (fun i v hv => by simp at hv) fun i v hv => by simp at hv)
theorem cloG_sound (hP : OkProg E.P) (hp : E₀.P = E.P) (hg : E₀.glob = E.glob) (h0 : ∀ f, E₀.orc f = none) {f : FuncId} (hC : CloCon E.P f) {args : List Value} {v : Value} (hr : cloG E₀ f args h lo = some (v, h')) (hlo : lo ≤ h.length) (args' : Array Value) (hs : HSim E B M h w) (hv : VRels M args args'.toList) :
  Calls E.P f args' w fun e w' => ∃ v', e = .returned v' ∧ Out E B lo M h w v h' v' w' := by
 unfold cloG at hr
 by_cases he : emptyT args = true
 ·rw [if_pos he] at hr
  simp only [Option.some.injEq, Prod.mk.injEq] at hr
  obtain ⟨rfl, rfl⟩ := hr
  unfold emptyT at he
  split at he
  case h_2 => cases he
  rename_i k
  have hk : k < 2 := of_decide_eq_true he
  obtain ⟨x, hx, hr⟩ := hv.get (i := 0) rfl
  have hl : args'.toList = [x] := by
   have h1 := hv.1
   match hm : args'.toList, h1 with
   | [y], _ => rw [hm] at hx; simp at hx; rw [hx]
  have ha : args' = #[x] := by rw [← Array.toList_inj]; simpa using hl
  subst ha
  rcases hr.treeSome.lstSome hk with ⟨hx2, _⟩ | ⟨a', cap', s0, g, hx2, _⟩
  ·rw [hx2]
   refine (hC.nil w).mono ?_
   rintro e w' ⟨rfl, rfl⟩
   exact ⟨_, rfl, M, lnil_rel 0 (by decide), hs, Evo.refl hs lo⟩
  ·rw [hx2]
   refine (hC.zero a' cap' w).mono ?_
   rintro e w' ⟨a, c, rfl, hb⟩
   have p : Past w w' := ⟨hb.os, hb.tape, hb.output, hb.size, hb.block⟩
   refine ⟨_, rfl, ⟨M.obj, M.phi⟩, lzero_rel a c, hs.past p (Ψ := M.phi) (fun _ _ _ h => h) (fun b x v hv => ?_) (fun _ _ _ => rfl), Evo.past hs p (Ψ := M.phi) (fun _ _ _ h => h) (fun _ _ _ => rfl) lo⟩
   have h0 := hs.phi b x v hv
   rw [← h0]; exact World.cell?_of_block (p.block b (cell_lt h0))
 ·rw [if_neg he] at hr
  have hP0 : OkProg E₀.P := by rw [hp]; exact hP
  have key := (evF_sound hP0 (noOrc h0) 1).snd f args h lo v h' hr hlo B M w args' (hs.env hg) hv
  rw [hp] at key
  refine key.mono ?_
  rintro e w' ⟨v', rfl, M', k1, k2, k3⟩
  exact ⟨v', rfl, M', k1, k2.env hg.symm, k3⟩
theorem cloG_keep (h0 : ∀ f, E₀.orc f = none) {f : FuncId} {args : List Value} {v : Value} (hr : cloG E₀ f args h lo = some (v, h')) (hlo : lo ≤ h.length) : Keep lo h h' := by
 unfold cloG at hr
 by_cases he : emptyT args = true
 ·rw [if_pos he] at hr
  simp only [Option.some.injEq, Prod.mk.injEq] at hr
  obtain ⟨_, rfl⟩ := hr
  exact Keep.refl _ _
 ·rw [if_neg he] at hr
  exact evF_keep (fun f g hg => by rw [h0] at hg; cases hg) 1 _ _ _ _ _ _ hr hlo
theorem cloG_some {f : FuncId} {args : List Value} (he : emptyT args = false) : cloG E₀ f args h lo = evF E₀ 1 f args h lo := by
 unfold cloG; rw [he]; rfl
theorem cloG_none {f : FuncId} {x : Bool} : cloG E₀ f [lst x []] h lo = some (lst false [], h) := by
 unfold cloG lst; cases x <;> rfl
theorem evF_one {f : FuncId} {R : RFn} (hR : rfnOf E₀ f = some R) (ho : E₀.orc f = none) (args : List Value) : evF E₀ 1 f args h lo = retK R.res (evR E₀ (fun _ _ _ _ => none) (evLoop 0) lo R.body (padS args R.n) h) := by
 show evCall E₀ (evF E₀ 0) (evLoop 0) f args h lo = _
 unfold evCall
 rw [ho]
 exact evBody_fn hR args h
end
end Go.Proofs.YtibmcdmlpobanaaGreat.Bm
