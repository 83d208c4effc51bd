/-
  Chapter 36: the grounded labelling, as the program finds it. Conditions: lists that are not too long.
-/
import Derived.Test.YtbadgapficfbpaaC36c
namespace Go.Proofs.Ytbadgapficfbpaa.Bm
open Go Go.RowKit

/-! ### Plain -/

def startF : List (List Int) → Nat → List Int × List Int → List Int × List Int
  | [], _, s => s
  | g :: G, i, s => startF G (i + 1) (s.1.set i g.length, if g = [] then s.2 ++ [(i : Int)] else s.2)
theorem startF_eq : ∀ (G : List (List Int)) (i : Nat) (L W : List Int), L.length = i + G.length → startF G i (L, W) = (L.take i ++ G.map (fun g => (g.length : Int)), W ++ wave0 G i)
  | [], i, L, W, h => by
    simp only [startF, wave0, List.map_nil, List.append_nil]
    rw [List.take_of_length_le (by simp at h; omega)]
  | g :: G, i, L, W, h => by
    have hi : i < L.length := by rw [h]; simp
    rw [startF, startF_eq G (i + 1) _ _ (by simp at h ⊢; omega)]
    congr 1
    · rw [List.take_succ_eq_append_getElem (by simpa using hi), List.getElem_set_self, List.take_set_of_le (Nat.le_refl _)]
      simp
    · rw [show wave0 (g :: G) i = if g = [] then (i : Int) :: wave0 G (i + 1) else wave0 G (i + 1) from rfl]
      split <;> simp

structure GInv (n m : Nat) (r : Int) (s : GS) : Prop where
  lab : s.lab.length = n
  rk : s.rk.length = n
  left : s.left.length = n
  wave : ∀ i ∈ s.wave, 0 ≤ i ∧ i.toNat < n ∧ getI s.lab i = 0
  wlen : s.wave.length ≤ 90000
  open_ : s.lab.count 0 < m
  round : r = 1 + 2 * (n + 1 - m)
  mle : m ≤ n + 1
  low : ∀ x ∈ s.left, -(((n + 1 - m) * 90000 : Nat) : Int) ≤ x ∧ x ≤ 100000

theorem count_set0 {L : List Int} {k : Nat} {v : Int} (hk : k < L.length) (h0 : L[k] = 0) (hv : v ≠ 0) : (L.set k v).count 0 + 1 = L.count 0 := by
  induction L generalizing k with
  | nil => simp at hk
  | cons a L ih =>
    cases k with
    | zero =>
      have ha : a = 0 := h0
      rw [List.set_cons_zero, List.count_cons, List.count_cons, ha]
      simp [hv]
    | succ k =>
      rw [List.set_cons_succ, List.count_cons, List.count_cons]
      have := ih (k := k) (by simpa using hk) (by simpa using h0)
      omega
theorem count_set_le {L : List Int} {k : Nat} {v : Int} (hv : v ≠ 0) : (L.set k v).count 0 ≤ L.count 0 := by
  induction L generalizing k with
  | nil => simp
  | cons a L ih =>
    cases k with
    | zero =>
      rw [List.set_cons_zero, List.count_cons, List.count_cons]
      simp [hv]
    | succ k =>
      rw [List.set_cons_succ, List.count_cons, List.count_cons]
      have := ih (k := k)
      omega
theorem getI_mem {L : List Int} {k : Int} (h1 : k.toNat < L.length) : getI L k ∈ L := by
  have : getI L k = L[k.toNat] := by simp [getI, h1]
  rw [this]; exact List.getElem_mem h1
theorem getI_eq {L : List Int} {k : Int} (h1 : k.toNat < L.length) : L[k.toNat] = getI L k := by
  simp [getI, h1]
theorem getI_set {L : List Int} {k j : Int} {v : Int} (h1 : k.toNat < L.length) : getI (L.set k.toNat v) j = if j.toNat = k.toNat then v else getI L j := by
  unfold getI
  simp only [List.getD_eq_getElem?_getD, List.getElem?_set]
  by_cases h : k.toNat = j.toNat
  · simp [h, h ▸ h1]
  · have : ¬ j.toNat = k.toNat := fun e => h e.symm
    simp [h, this]

/-! ### Rows that become lists -/

theorem frz_int {h : Heap} {b : Nat} {W : List Int} (ho : h[b]? = some (.cells 3 (W.map (.int .i64)) 1)) : ∃ o, (∀ n, belowO n o = true) ∧
    freezeV E.P depth 0 h (.slice (some ⟨b, 0, some W.length⟩) W.length W.length) = some (lst false (W.map (.int .i64)), h.set b o) := by
  have fz := frz_one8 (P := E.P) (lo := 0) (h := h) (b := b) (k := W.length) (len := W.length) (cap := W.length) (t := 3) (l := W.map (.int .i64)) ho s3 a3 (Nat.zero_le _) (by simp) (by simp) (by simp [List.all_eq_true])
  rw [fz]
  by_cases hw : W.length = 0
  · refine ⟨.cells 3 (W.map (.int .i64)) 1, fun n => by simp [belO_cells, List.all_eq_true], ?_⟩
    rw [if_pos hw]
    congr 2
    apply List.ext_getElem?
    intro i
    by_cases hb : b = i
    · subst hb
      have hlt := (List.getElem?_eq_some_iff.1 ho).1
      rw [List.getElem?_set_self hlt, ho]
    · rw [List.getElem?_set_ne hb]
  · exact ⟨.dead, fun n => rfl, by rw [if_neg hw]⟩

theorem map_below {L : List Int} {n d : Nat} : (L.map (Value.int .i64)).all (below (d + 1) n) = true := by simp [List.all_eq_true]
theorem set_below {L : List Int} {k n d : Nat} {v : Int} : ((L.map (Value.int .i64)).set k (.int .i64 v)).all (below (d + 1) n) = true := by
  rw [← List.map_set]; exact map_below

def rowC (L : List Int) : AObj := .cells 3 (L.map (.int .i64)) 0
def rowG (L : List Int) : AObj := .cells 3 (L.map (.int .i64)) 1
theorem rowC_bel {n : Nat} {L : List Int} : belowO n (rowC L) = true := map_below
theorem rowG_bel {n : Nat} {L : List Int} : belowO n (rowG L) = true := map_below
def rowS_ (b : Nat) (L : List Int) : Value := .slice (some ⟨b, 0, some L.length⟩) L.length L.length

end Go.Proofs.Ytbadgapficfbpaa.Bm
