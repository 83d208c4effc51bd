/-
  Chapter 06: the laws' arguments as data, and what is known of other functions. Conditions: none.
-/
import Derived.Test.YtgeebooalafepaaC06a
import Derived.Test.YtgeebooalafepaaBmDec
import Derived.Test.YtgeebooalafepaaBmSrt
import Derived.Test.YtgeebooalafepaaBmCmp
import Derived.Test.YtgeebooalafepaaBmSrtF
import Derived.Test.YtgeebooalafepaaRows
namespace Go.Proofs.Ytgeebooalafepaa.Bm
open Go Go.RowKit
open Rg (Rect)

theorem okE : OkProg E.P := okProg_of (by kernel_rfl) (by kernel_rfl)
theorem laidE : laidOutB E.P = true := by kernel_rfl
theorem mapsE : mapsRowed E.P = true := by kernel_rfl
noncomputable def tlE : List TypeId := closeT E.P 6 [22, 3]
theorem closedE : closedT E.P tlE = true := by kernel_rfl
theorem in22 : 22 ∈ tlE := List.contains_iff_mem.1 (by kernel_rfl)
theorem in3 : 3 ∈ tlE := List.contains_iff_mem.1 (by kernel_rfl)
theorem ui : E.P.underlying 3 = some (.int .i64) := by kernel_rfl
theorem u4 : E.P.underlying 4 = some .bool := by kernel_rfl
theorem uRs : E.P.underlying 22 = some (.slice 32) := by kernel_rfl
theorem fR : fsOf E.P 32 = some [(0, 3), (1, 3), (2, 3), (3, 3)] := by kernel_rfl
theorem nR : E.P.cellsOf 32 = 4 := by kernel_rfl
theorem ni : E.P.cellsOf 3 = 1 := by kernel_rfl
theorem gR : aggT E.P 32 = some true := by kernel_rfl
theorem gRs : aggT E.P 22 = some false := by kernel_rfl
theorem gi : aggT E.P 3 = some false := by kernel_rfl
def i64ok (z : Int) : Prop := -9223372036854775808 ≤ z ∧ z ≤ 9223372036854775807
def RectI (r : Rect) : Prop := i64ok r.x0 ∧ i64ok r.y0 ∧ i64ok r.x1 ∧ i64ok r.y1

theorem rect_of {n : Nat} {c : List Value} (h : Wt E.P n 32 c) : ∃ r : Rect, c = rectR.enc r ∧ RectI r := by
  obtain ⟨hl, hf⟩ := wt_struct fR h
  rw [nR] at hl
  obtain ⟨a0, c, rfl⟩ := List.exists_cons_of_length_eq_add_one hl; have hl := Nat.succ.inj hl
  obtain ⟨a1, c, rfl⟩ := List.exists_cons_of_length_eq_add_one hl; have hl := Nat.succ.inj hl
  obtain ⟨a2, c, rfl⟩ := List.exists_cons_of_length_eq_add_one hl; have hl := Nat.succ.inj hl
  obtain ⟨a3, c, rfl⟩ := List.exists_cons_of_length_eq_add_one hl; have hl := Nat.succ.inj hl
  obtain rfl := List.eq_nil_of_length_eq_zero hl
  obtain ⟨m0, q0⟩ := hf (0, 3) (by simp)
  replace q0 : Wt E.P m0 3 [a0] := by simpa [ni] using q0
  obtain ⟨m1, q1⟩ := hf (1, 3) (by simp)
  replace q1 : Wt E.P m1 3 [a1] := by simpa [ni] using q1
  obtain ⟨m2, q2⟩ := hf (2, 3) (by simp)
  replace q2 : Wt E.P m2 3 [a2] := by simpa [ni] using q2
  obtain ⟨m3, q3⟩ := hf (3, 3) (by simp)
  replace q3 : Wt E.P m3 3 [a3] := by simpa [ni] using q3
  obtain ⟨z0, e, h0⟩ := wt_int ui q0; obtain rfl := List.singleton_inj.1 e
  obtain ⟨z1, e, h1⟩ := wt_int ui q1; obtain rfl := List.singleton_inj.1 e
  obtain ⟨z2, e, h2⟩ := wt_int ui q2; obtain rfl := List.singleton_inj.1 e
  obtain ⟨z3, e, h3⟩ := wt_int ui q3; obtain rfl := List.singleton_inj.1 e
  exact ⟨⟨z0, z1, z2, z3⟩, rfl, i64_wf h0, i64_wf h1, i64_wf h2, i64_wf h3⟩
theorem rects_of {n : Nat} {c : List Value} (h : Wt E.P n 22 c) : ∃ l : List Rect, c = [lst false (rectR.vals l)] ∧ l.length ≤ maxLen ∧ ∀ r ∈ l, RectI r := by
  obtain ⟨ls, rfl, h2, h3⟩ := wt_slice uRs h
  obtain ⟨rs, rfl, k2⟩ := choose_list (cells := rectR.enc) (Q := RectI) ls fun x hx => by
    obtain ⟨m, hm⟩ := h3 x hx
    exact rect_of hm
  refine ⟨rs, ?_, by simpa using h2, k2⟩
  have e : ∀ l : List Rect, (l.map rectR.enc).map (elemV E.P 32) = rectR.vals l := by
    intro l
    induction l with
    | nil => rfl
    | cons r l ih =>
      rw [List.map_cons, List.map_cons, ih]
      unfold elemV
      rw [if_pos gR]
      rfl
  rw [e]
theorem rectsV {n : Nat} {c : List Value} (h : Wt E.P n 22 c) : ∃ l : List Rect, elemV E.P 22 c = lst false (rectR.vals l) ∧ l.length ≤ maxLen ∧ ∀ r ∈ l, RectI r := by
  obtain ⟨l, rfl, hl⟩ := rects_of h
  exact ⟨l, by simp [elemV, gRs], hl⟩
theorem intV {n : Nat} {c : List Value} (h : Wt E.P n 3 c) : ∃ z : Int, elemV E.P 3 c = .int .i64 z ∧ i64ok z := by
  obtain ⟨z, rfl, hz⟩ := wt_int ui h
  exact ⟨z, by simp [elemV, gi], i64_wf hz⟩

/-- What is known otherwise: sorting numbers and spans, and striking repetitions. -/
theorem orcE : OrcSound E := by
  have key : ∀ g k, E.orc g = some k → (∃ F N, k = inG F N ∧ SortCon E.P g F N) ∨ ∃ q m F, k = inC q m F ∧ CellCon E.P g q m F := fun g k h => by
    rw [E_orc] at h
    by_cases h1 : g = 44
    · subst h1; simp only [if_true, Option.some.injEq] at h; exact .inl ⟨_, _, h.symm, conSort⟩
    · by_cases h2 : g = 45
      · subst h2; simp only [h1, if_false, if_true, Option.some.injEq] at h; exact .inl ⟨_, _, h.symm, conComp⟩
      · by_cases h3 : g = 55
        · subst h3; simp only [h1, h2, if_false, if_true, Option.some.injEq] at h; exact .inr ⟨_, _, _, h.symm, conSpan⟩
        · simp only [h1, h2, h3, if_false] at h; cases h
  refine ⟨fun g k hg args h lo r _ => ?_, fun g k hg args h lo v h' hr hlo B M w args' hs hv => ?_, fun g k hg args h lo v h' hr _ => ?_⟩
  · rcases key g k hg with ⟨F, N, _, hC⟩ | ⟨q, m, F, _, hC⟩
    · exact hC.dfd
    · exact hC.dfd
  · rcases key g k hg with ⟨F, N, rfl, hC⟩ | ⟨q, m, F, rfl, hC⟩
    · exact in_sound hC hr hlo args' hs hv
    · exact inC_sound hC hr hlo args' hs hv
  · rcases key g k hg with ⟨F, N, rfl, _⟩ | ⟨q, m, F, rfl, _⟩
    · exact inG_keep hr
    · exact inC_keep hr
end Go.Proofs.Ytgeebooalafepaa.Bm
