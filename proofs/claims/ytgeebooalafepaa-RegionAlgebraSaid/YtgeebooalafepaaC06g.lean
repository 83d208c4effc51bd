/-
  Chapter 06: rows of numbers: appended in pairs, sorted, each once. Conditions: lists that are not too long.
-/
import Derived.Test.YtgeebooalafepaaC06f
namespace Go.Proofs.Ytgeebooalafepaa.Bm
open Go Go.RowKit

def intR : Rec Int where
  enc a := [.int .i64 a]
  m := 0
  len _ := rfl
  set _ := rfl
  bel _ _ := rfl
theorem int_flat (l : List Int) : intR.flat l = l.map (.int .i64) := by
  induction l with
  | nil => rfl
  | cons a l ih => show Value.int .i64 a :: intR.flat l = _; rw [ih]; rfl
theorem lit_two (h : Heap) (a b : Int) : buildSliceT (some ⟨3, 1, 8, .int .i64 0, ⟨some false, some 1⟩⟩) false h 2 #[(0, .int .i64 a), (1, .int .i64 b)] = some (lst true [.int .i64 a, .int .i64 b], h) :=
  (build_lit' (n := 2) (l := [(0, .int .i64 a), (1, .int .i64 b)]) rfl rfl (by decide) (by decide) (by decide)).trans rfl
theorem app_two {h : Heap} {b : Nat} {c : List Int} (u v : Int) (hob : h[b]? = some (intR.row 3 c)) (hc : c.length ≤ 1000000) :
    appendT (some ⟨3, 1, 8, .int .i64 0, ⟨some false, some 1⟩⟩) h 0 false (intR.sl b c) (lst true [.int .i64 u, .int .i64 v]) = some (intR.sl b (c ++ [u, v]), h.set b (intR.row 3 (c ++ [u, v]))) :=
  Rec.app (R := intR) (m := [u, v]) rfl hob (cells_lst (by rfl)) (Nat.zero_le _) (by show (c.length + 2) * 8 ≤ 2 ^ 47; omega)
theorem sortInts {h : Heap} {b lo : Nat} {d : List Int} (hob : h[b]? = some (intR.row 3 d)) (hlo : lo ≤ b) (hd : d.length ≤ 1000000) :
    L E 44 [intR.sl b d] h lo = some (.tuple #[], h.set b (intR.row 3 (sortI d))) := by
  rw [L_orc (g := inG sortI none) rfl]
  by_cases h0 : d.length = 0
  · have : d = [] := List.eq_nil_of_length_eq_zero h0
    subst this
    have e : h.set b (intR.row 3 (sortI [])) = h := set_same hob
    rw [e]
    rfl
  · have hob' : h[b]? = some (.cells 3 ((d ++ []).map (.int .i64)) (0 + 1)) := by
      rw [List.append_nil, ← int_flat]; exact hob
    have key := inG_ints (F := sortI) (N := none) (lo := lo) (k := d.length) (n := d.length) (c := d.length) (zs := d) (ys := []) hob' hlo (by simp) rfl h0 (by omega)
    have e1 : intR.sl b d = .slice (some ⟨b, 0, some d.length⟩) d.length d.length := by unfold Rec.sl; simp [intR]
    rw [e1, key]
    congr 2
    unfold Rec.row
    rw [List.append_nil, int_flat]; rfl
/-- What is left of a sorted row without repetitions: its first numbers. -/
def preS (b n : Nat) (e : List Int) : Value := .slice (some ⟨b, 0, some n⟩) e.length n
theorem compInts {h : Heap} {b lo : Nat} {d : List Int} (hob : h[b]? = some (intR.row 3 d)) (hlo : lo ≤ b) (hd : d.length ≤ 1000000) :
    ∃ r, L E 45 [intR.sl b d] h lo = some (preS b d.length (compI d), h.set b (intR.row 3 (compI d ++ r))) ∧ (compI d ++ r).length = d.length := by
  rw [L_orc (g := inG compF (some compN)) rfl]
  by_cases h0 : d.length = 0
  · have : d = [] := List.eq_nil_of_length_eq_zero h0
    subst this
    refine ⟨[], ?_, rfl⟩
    have e : h.set b (intR.row 3 (compI [] ++ [])) = h := set_same hob
    rw [e]
    rfl
  · have hob' : h[b]? = some (.cells 3 ((d ++ []).map (.int .i64)) (0 + 1)) := by
      rw [List.append_nil, ← int_flat]; exact hob
    have key := inG_ints (F := compF) (N := some compN) (lo := lo) (k := d.length) (n := d.length) (c := d.length) (zs := d) (ys := []) hob' hlo (by simp) rfl h0 (by omega)
    have e1 : intR.sl b d = .slice (some ⟨b, 0, some d.length⟩) d.length d.length := by unfold Rec.sl; simp [intR]
    refine ⟨List.replicate (d.length - (compI d).length) 0, ?_, compF_len d⟩
    rw [e1, key]
    congr 2
    unfold Rec.row
    rw [List.append_nil, int_flat]; rfl
theorem pre_len {h : Heap} {b n : Nat} {e : List Int} : lenT .sl h (preS b n e) = some (.int .i64 e.length) := rfl
theorem pre_bel {m d b n : Nat} {e : List Int} (h : b < m) : below (d + 1) m (preS b n e) = true := decide_eq_true h
theorem pre_index {t : TypeId} {g : Option Bool} {b n i : Nat} {e : List Int} {k : IntKind} (h1 : i < e.length) : indexAddrT (.sl t ⟨g, some 1⟩) (preS b n e) (.int k (i : Int)) = some (.pointer (some ⟨b, i, some n⟩)) := by
  unfold preS
  rw [index_slice, if_pos ⟨by omega, by omega⟩]
  simp [shift]
theorem pre_load {h : Heap} {b n i : Nat} {e r : List Int} {sz : Option Nat} (hob : h[b]? = some (intR.row 3 (e ++ r))) (hn : (e ++ r).length = n) (h1 : i < e.length) : loadT ⟨some false, sz⟩ h (.pointer (some ⟨b, i, some n⟩)) = some (.int .i64 e[i]) := by
  subst hn
  have key := Rec.load_cell (R := intR) (h := h) (b := b) (j := 0) (t := 3) (l := e ++ r) (i := i) (sz := sz) hob (by rw [List.length_append]; omega) (by decide)
  unfold Rec.at_ at key
  have e1 : (e ++ r)[i]'(by rw [List.length_append]; omega) = e[i] := List.getElem_append_left h1
  simp only [e1, show intR.m + 1 = 1 from rfl, Nat.mul_one, Nat.add_zero] at key
  exact key
end Go.Proofs.Ytgeebooalafepaa.Bm
