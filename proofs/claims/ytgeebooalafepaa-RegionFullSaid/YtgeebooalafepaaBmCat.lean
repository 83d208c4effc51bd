/-
  Lists of records that may be nil, and rows filled from their beginning on (slices.Grow, slices.Concat). Conditions: none.
-/
import Derived.Test.YtgeebooalafepaaBmRow
namespace Go.Proofs.Ytgeebooalafepaa.Bm
open Go Go.RowKit
namespace Rec
variable {α : Type} {R : Rec α}
/-- A list of records; nil if there is no mark. -/
def o (R : Rec α) (k : Option Bool) (l : List α) : Value := match k with | none => .slice none 0 0 | some b => lst b (R.vals l)
/-- nil has no records. -/
def Ok (k : Option Bool) (l : List α) : Prop := k = none → l = []
theorem ok_some {b : Bool} {l : List α} : Ok (some b) l := fun h => by cases h
theorem ok_nil {k : Option Bool} : Ok k ([] : List α) := fun _ => rfl
section
variable {k : Option Bool} {l : List α} {h : Heap}
theorem o_len (hk : Ok k l) : lenT .sl h (R.o k l) = some (.int .i64 l.length) := by
  cases k with
  | none => have := hk rfl; subst this; rfl
  | some b => exact tree_len
theorem o_one : one (R.o k l) = true := by cases k <;> rfl
theorem o_set {n : Nat} : settled (n + 1) (R.o k l) = true := by cases k <;> rfl
theorem o_bel {d n : Nat} : below (d + 1) n (R.o k l) = true := by cases k <;> rfl
theorem o_fits {sz : Option Nat} : fitsTT ⟨some false, sz⟩ (R.o k l) = true := by cases k <;> rfl
theorem o_reify {P : Program} {n : Nat} : reify P (n + 1) h (R.o k l) = some (R.o k l) := by cases k <;> rfl
theorem o_reifyR {P : Program} : reifyR P h (R.o k l) = some (R.o k l) := by cases k <;> rfl
theorem o_cells1 : cellsL (R.o k l) = [R.o k l] := by cases k <;> rfl
theorem o_cellsOf : cellsOf (R.o k l) = some [R.o k l] := by cases k <;> rfl
theorem o_cells {s : Nat} (hs : s = R.m + 1) (hk : Ok k l) : sliceCells h s (R.o k l) = some (R.flat l, l.length) := by
  cases k with
  | none => have := hk rfl; subst this; rfl
  | some b => exact cells_tree hs l
theorem o_index {s i : Nat} {t : TypeId} {kk : IntKind} (hs : s = R.m + 1) (hk : Ok k l) (h1 : i < l.length) : indexAddrT (.sl t ⟨some true, some s⟩) (R.o k l) (.int kk (i : Int)) = some (cptr (R.val l[i])) := by
  cases k with
  | none => have := hk rfl; subst this; simp at h1
  | some b => exact index_tree hs h1
end
/-- A row that is filled from its beginning on. -/
theorem app_fill {el : El} {h : Heap} {lo b n r : Nat} {t : TypeId} {acc m : List α} {z : α} {u : Value} (hel : el.size = R.m + 1) (hob : h[b]? = some (R.row t (acc ++ List.replicate r z))) (hn : n = acc.length + r)
    (hu : sliceCells h el.size u = some (R.flat m, m.length)) (hlo : lo ≤ b) (hm : m.length ≤ r) :
    appendT (some el) h lo false (.slice (some ⟨b, 0, some (n * (R.m + 1))⟩) acc.length n) u = some (.slice (some ⟨b, 0, some (n * (R.m + 1))⟩) (acc ++ m).length n, h.set b (R.row t ((acc ++ m) ++ List.replicate (r - m.length) z))) := by
  have hl : (acc ++ List.replicate r z).length = n := by rw [List.length_append, List.length_replicate, hn]
  have key := app_room (i := acc.length) hel hob hu hlo (by rw [hl, hn]; omega)
  rw [hl] at key
  rw [key]
  have e1 : (acc ++ List.replicate r z).take acc.length = acc := by simp
  have e2 : (acc ++ List.replicate r z).drop (acc.length + m.length) = List.replicate (r - m.length) z := by
    rw [List.drop_append, List.drop_of_length_le (by omega)]; simp
  rw [e1, e2, List.length_append]
theorem slice_none {ix : TypeId} {g : TI} {s : Nat} {h : Heap} {k : IntKind} (hs : g.sz = some s) : sliceT (.sl ix g) h (.slice none 0 0) none (some (.int k 0)) none = some (.slice none 0 0) := by
  unfold sliceT
  simp [hs, bound]
theorem slice_row0 {e t : TypeId} {g : Option Bool} {h : Heap} {b n s : Nat} {l : List α} {k : IntKind} (hs : s = R.m + 1) (hob : h[b]? = some (R.row t l)) (hn : n = l.length) :
    sliceT (.sl e ⟨g, some s⟩) h (.slice (some ⟨b, 0, some (n * (R.m + 1))⟩) n n) none (some (.int k 0)) none = some (.slice (some ⟨b, 0, some (n * (R.m + 1))⟩) 0 n) := by
  subst hs; subst hn
  have hob' : h[b]? = some (.cells t (R.flat l) (R.m + 1)) := hob
  have hf : fitsRow h ⟨b, 0, some (l.length * (R.m + 1))⟩ (R.m + 1) = true := by
    unfold fitsRow
    show (match h[b]? with | some (.cells _ c g) => _ | _ => false) = true
    rw [hob']
    simp [stampOk, flat_len]
  unfold sliceT
  simp [hf, bound, shift]
end Rec
end Go.Proofs.Ytgeebooalafepaa.Bm
