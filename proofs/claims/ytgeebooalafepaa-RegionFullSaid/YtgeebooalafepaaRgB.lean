/-
  Regions, plain: how the program's loops make columns, strips and lists of rectangles. Conditions: none. No program in sight.
-/
import Derived.Test.YtgeebooalafepaaRgA
import Derived.Test.YtgeebooalafepaaBmSort
import Derived.Test.YtgeebooalafepaaBmSrtF
namespace Go.Proofs.Ytgeebooalafepaa.Rg
open Bm (compG compI sortI)

/-! ### A column -/
def gstep (o : List (Int × Int)) (s : Int × Int) : List (Int × Int) := match o.getLast? with
  | some u => if s.1 ≤ u.2 then o.dropLast ++ [(u.1, max u.2 s.2)] else o ++ [s]
  | none => [s]
theorem gstep_snoc (o : List (Int × Int)) (u s : Int × Int) : gstep (o ++ [u]) s = o ++ (if s.1 ≤ u.2 then [(u.1, max u.2 s.2)] else [u, s]) := by
  unfold gstep
  rw [List.getLast?_concat]
  simp only
  split
  · rw [List.dropLast_concat]
  · rw [List.append_assoc]; rfl
theorem gstep_glue : ∀ (l : List (Int × Int)) (o : List (Int × Int)) (u : Int × Int), l.foldl gstep (o ++ [u]) = o ++ glue u l
  | [], o, u => rfl
  | s :: l, o, u => by
    rw [List.foldl_cons, gstep_snoc]
    unfold glue
    split
    · exact gstep_glue l o _
    · have e : o ++ [u, s] = (o ++ [u]) ++ [s] := by rw [List.append_assoc]; rfl
      rw [e, gstep_glue l (o ++ [u]) s, List.append_assoc]; rfl
theorem gstep_col (l : List (Int × Int)) : l.foldl gstep [] = colF l := by
  cases l with
  | nil => rfl
  | cons s l => exact gstep_glue l [] s
/-- The spans of the rectangles over 'x'. -/
def own (l : List Rect) (x : Int) : List (Int × Int) := (l.filter fun r => decide (r.x0 ≤ x) && decide (x < r.x1)).map fun r => (r.y0, r.y1)
theorem own_cons (r : Rect) (l : List Rect) (x : Int) : own (r :: l) x = (if r.x0 ≤ x ∧ x < r.x1 then [(r.y0, r.y1)] else []) ++ own l x := by
  unfold own
  by_cases h : r.x0 ≤ x ∧ x < r.x1
  · rw [if_pos h, List.filter_cons_of_pos (by simpa using h)]; rfl
  · rw [if_neg h, List.filter_cons_of_neg (by simpa using h)]; rfl
theorem own_has (l : List Rect) (x y : Int) : hasS (own l x) y = cell l x y := by
  induction l with
  | nil => rfl
  | cons r l ih =>
    rw [own_cons, hasS_append, ih]
    show _ = (r.has x y || cell l x y)
    congr 1
    unfold Rect.has
    by_cases h : r.x0 ≤ x ∧ x < r.x1
    · rw [if_pos h]
      simp [hasS, h]
    · rw [if_neg h, and_no h]
      simp [hasS]
theorem hasS_perm {a b : List (Int × Int)} (h : a.Perm b) (y : Int) : hasS a y = hasS b y := by
  rw [Bool.eq_iff_iff]
  unfold hasS
  simp only [List.any_eq_true]
  exact ⟨fun ⟨s, hs, k⟩ => ⟨s, h.mem_iff.1 hs, k⟩, fun ⟨s, hs, k⟩ => ⟨s, h.mem_iff.2 hs, k⟩⟩
def colC (l : List Rect) (x : Int) : List (Int × Int) := colF (sortS (own l x))
theorem colC_ok {l : List Rect} (hl : ∀ r ∈ l, r.y0 < r.y1) (x : Int) : Can (colC l x) ∧ ∀ y, hasS (colC l x) y = cell l x y := by
  have hp := sortS_sorted (own l x)
  have hs : ∀ u ∈ sortS (own l x), u.1 < u.2 := fun u hu => by
    have hu := (sortS_perm (own l x)).mem_iff.1 hu
    unfold own at hu
    obtain ⟨r, hr, rfl⟩ := List.mem_map.1 hu
    exact hl r (List.mem_filter.1 hr).1
  refine ⟨colF_can hp hs, fun y => ?_⟩
  unfold colC
  rw [colF_has hp hs, hasS_perm (sortS_perm _), own_has]
theorem colC_len (l : List Rect) (x : Int) : (colC l x).length ≤ l.length := by
  have glue_len : ∀ (l : List (Int × Int)) (s : Int × Int), (glue s l).length ≤ l.length + 1 := by
    intro l
    induction l with
    | nil => intro s; exact Nat.le_refl _
    | cons u l ih =>
      intro s
      unfold glue
      split
      · exact Nat.le_succ_of_le (ih _)
      · exact Nat.succ_le_succ (ih u)
  have h1 : (sortS (own l x)).length ≤ l.length := by
    rw [(sortS_perm _).length_eq]
    unfold own
    rw [List.length_map]; exact List.length_filter_le _ _
  unfold colC
  cases h : sortS (own l x) with
  | nil => exact Nat.zero_le _
  | cons s m =>
    rw [h] at h1
    exact Nat.le_trans (glue_len m s) h1

/-! ### Numbers, each once -/
theorem compG_mem : ∀ (l : List Int) (p : Option Int) (z : Int), z ∈ compG p l → z ∈ l
  | [], _, _, h => by cases h
  | a :: l, p, z, h => by
    unfold compG at h
    split at h
    · exact List.mem_cons_of_mem _ (compG_mem l p z h)
    · rcases List.mem_cons.1 h with rfl | h
      · exact List.mem_cons_self
      · exact List.mem_cons_of_mem _ (compG_mem l _ z h)
theorem compG_all : ∀ (l : List Int) (p : Option Int) (z : Int), z ∈ l → z ∈ compG p l ∨ p = some z
  | [], _, _, h => by cases h
  | a :: l, p, z, h => by
    unfold compG
    split
    · rename_i e
      rcases List.mem_cons.1 h with rfl | h
      · exact .inr e
      · exact compG_all l p z h
    · rcases List.mem_cons.1 h with rfl | h
      · exact .inl List.mem_cons_self
      · rcases compG_all l (some a) z h with k | k
        · exact .inl (List.mem_cons_of_mem _ k)
        · cases k; exact .inl List.mem_cons_self
theorem compG_asc : ∀ (l : List Int) (p : Option Int), l.Pairwise (· ≤ ·) → (∀ a ∈ p, ∀ z ∈ l, a ≤ z) → (compG p l).Pairwise (· < ·) ∧ ∀ a ∈ p, ∀ z ∈ compG p l, a < z
  | [], _, _, _ => ⟨.nil, fun a _ z h => by cases h⟩
  | b :: l, p, hp, ha => by
    rw [List.pairwise_cons] at hp
    unfold compG
    split
    · exact compG_asc l p hp.2 fun a h z hz => ha a h z (List.mem_cons_of_mem _ hz)
    · rename_i hne
      obtain ⟨i1, i2⟩ := compG_asc l (some b) hp.2 fun a h z hz => by cases h; exact hp.1 z hz
      refine ⟨List.pairwise_cons.2 ⟨fun z hz => i2 b rfl z hz, i1⟩, fun a h z hz => ?_⟩
      have hab := ha a h b List.mem_cons_self
      have hne' : a ≠ b := fun e => hne (by rw [← e]; exact h)
      rcases List.mem_cons.1 hz with rfl | hz
      · omega
      · have := i2 b rfl z hz; omega
theorem comp_sort (l : List Int) : compI (sortI l) = sortU l := by
  obtain ⟨h1, _⟩ := compG_asc (sortI l) none (Bm.sortI_sorted l) fun a h => by cases h
  refine asc_ext h1 (sortU_asc l) fun z => ?_
  rw [sortU_mem, ← (Bm.sortI_perm l).mem_iff]
  exact ⟨compG_mem _ _ z, fun h => (compG_all _ none z h).resolve_right fun k => by cases k⟩

/-! ### What is written -/
/-- A run of equal strips, from place 'i' up to 'k'. -/
theorem runs_step {s u : Slab} {T : List Slab} (h : u.col = s.col) : outT (runs s (u :: T)) = outT (runs ⟨s.x0, u.x1, s.col⟩ T) := by
  rw [runs, if_pos h]
theorem emit_nil {s : Slab} (h : s.col = []) : emit s = [] := by unfold emit; rw [h]; rfl
theorem runs_stop {s u : Slab} {T : List Slab} (h : u.col ≠ s.col) : outT (runs s (u :: T)) = emit s ++ outT (runs u T) := by
  rw [runs, if_neg h]
  split
  · rename_i e; rw [emit_nil e]; rfl
  · rfl
theorem runs_end {s : Slab} : outT (runs s []) = emit s := by
  rw [runs]
  split
  · rename_i e; rw [emit_nil e]; rfl
  · show emit s ++ [] = _; rw [List.append_nil]
end Go.Proofs.Ytgeebooalafepaa.Rg
