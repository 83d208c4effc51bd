/-
  Chapter 36: the laws' arguments as data, and the frame of the statements. Conditions: none.
-/
import Derived.Test.YtbadgapficfbpaaC36z
import Derived.Test.YtbadgapficfbpaaBmDec
import Derived.Test.YtbadgapficfbpaaRows
namespace Go.Proofs.Ytbadgapficfbpaa.Bm
open Go Go.RowKit

theorem okE : OkProg E.P := okProg_of (by kernel_rfl) (by kernel_rfl)
theorem laidE : laidOutB E.P = true := by kernel_rfl
theorem mapsE : mapsRowed E.P = true := by kernel_rfl
noncomputable def tlE : List TypeId := closeT E.P 6 [22, 23, 3]
theorem closedE : closedT E.P tlE = true := by kernel_rfl
theorem in22 : 22 ∈ tlE := List.contains_iff_mem.1 (by kernel_rfl)
theorem in23 : 23 ∈ tlE := List.contains_iff_mem.1 (by kernel_rfl)
theorem in3 : 3 ∈ tlE := List.contains_iff_mem.1 (by kernel_rfl)

theorem u4 : E.P.underlying 4 = some .bool := by kernel_rfl
theorem u9 : E.P.underlying 9 = some .string := by kernel_rfl
theorem u23 : E.P.underlying 23 = some (.slice 3) := by kernel_rfl
theorem u22 : E.P.underlying 22 = some (.slice 40) := by kernel_rfl
theorem f40 : fsOf E.P 40 = some [(0, 3), (1, 3), (2, 23), (3, 3), (4, 9), (5, 3)] := by kernel_rfl
theorem n40 : E.P.cellsOf 40 = 6 := by kernel_rfl
theorem n3 : E.P.cellsOf 3 = 1 := by kernel_rfl
theorem n9 : E.P.cellsOf 9 = 1 := by kernel_rfl
theorem n23 : E.P.cellsOf 23 = 1 := by kernel_rfl
theorem g40 : aggT E.P 40 = some true := by kernel_rfl
theorem g22 : aggT E.P 22 = some false := by kernel_rfl
theorem g23 : aggT E.P 23 = some false := by kernel_rfl

theorem claim_of {n : Nat} {c : List Value} (h : Wt E.P n 40 c) : ∃ r : Claim, c = r.cells ∧ (IOk r.k r.att ∧ r.att.length ≤ maxLen) := by
  obtain ⟨hl, hf⟩ := wt_struct f40 h
  rw [n40] at hl
  obtain ⟨a0, c, rfl⟩ := List.exists_cons_of_length_eq_add_one hl; have hl := Nat.succ.inj hl
  obtain ⟨a1, c, rfl⟩ := List.exists_cons_of_length_eq_add_one hl; have hl := Nat.succ.inj hl
  obtain ⟨a2, c, rfl⟩ := List.exists_cons_of_length_eq_add_one hl; have hl := Nat.succ.inj hl
  obtain ⟨a3, c, rfl⟩ := List.exists_cons_of_length_eq_add_one hl; have hl := Nat.succ.inj hl
  obtain ⟨a4, c, rfl⟩ := List.exists_cons_of_length_eq_add_one hl; have hl := Nat.succ.inj hl
  obtain ⟨a5, c, rfl⟩ := List.exists_cons_of_length_eq_add_one hl; have hl := Nat.succ.inj hl
  obtain rfl := List.eq_nil_of_length_eq_zero hl
  obtain ⟨mr0, qr0⟩ := hf (0, 3) (by simp)
  replace qr0 : Wt E.P mr0 3 [a0] := by simpa [n3] using qr0
  obtain ⟨mr1, qr1⟩ := hf (1, 3) (by simp)
  replace qr1 : Wt E.P mr1 3 [a1] := by simpa [n3] using qr1
  obtain ⟨mr2, qr2⟩ := hf (2, 23) (by simp)
  replace qr2 : Wt E.P mr2 23 [a2] := by simpa [n23] using qr2
  obtain ⟨mr3, qr3⟩ := hf (3, 3) (by simp)
  replace qr3 : Wt E.P mr3 3 [a3] := by simpa [n3] using qr3
  obtain ⟨mr4, qr4⟩ := hf (4, 9) (by simp)
  replace qr4 : Wt E.P mr4 9 [a4] := by simpa [n9] using qr4
  obtain ⟨mr5, qr5⟩ := hf (5, 3) (by simp)
  replace qr5 : Wt E.P mr5 3 [a5] := by simpa [n3] using qr5
  obtain ⟨party, e, _⟩ := wt_int ui3 qr0; obtain rfl := List.singleton_inj.1 e
  obtain ⟨day, e, _⟩ := wt_int ui3 qr1; obtain rfl := List.singleton_inj.1 e
  obtain ⟨att, e, watt, _⟩ := wt_ints u23 ui3 qr2; obtain rfl := List.singleton_inj.1 e
  obtain ⟨cite, e, _⟩ := wt_int ui3 qr3; obtain rfl := List.singleton_inj.1 e
  obtain ⟨name, e, _⟩ := wt_str u9 qr4; obtain rfl := List.singleton_inj.1 e
  obtain ⟨n1, e, _⟩ := wt_int ui3 qr5; obtain rfl := List.singleton_inj.1 e
  exact ⟨⟨party, day, some false, att, cite, name, n1⟩, rfl, iok_some, watt⟩

theorem case_of {n : Nat} {c : List Value} (h : Wt E.P n 22 c) : ∃ l : List Claim, c = [lst false (l.map Claim.val)] ∧ l.length ≤ maxLen ∧ CaseOk l := by
  obtain ⟨ls, rfl, h2, h3⟩ := wt_slice u22 h
  obtain ⟨rs, rfl, k2⟩ := choose_list (cells := Claim.cells) (Q := fun r => IOk r.k r.att ∧ r.att.length ≤ maxLen) ls fun x hx => by
    obtain ⟨m, hm⟩ := h3 x hx
    exact claim_of hm
  refine ⟨rs, ?_, by simpa using h2, fun r hr => k2 r hr⟩
  have e : ∀ l : List Claim, (l.map Claim.cells).map (elemV E.P 40) = l.map Claim.val := by
    intro l
    induction l with
    | nil => rfl
    | cons r l ih =>
      simp only [List.map_cons, ih]
      unfold elemV
      rw [if_pos g40]
      rfl
  rw [e]
theorem caseV {n : Nat} {c : List Value} (h : Wt E.P n 22 c) : ∃ l : List Claim, elemV E.P 22 c = lst false (l.map Claim.val) ∧ l.length ≤ maxLen ∧ CaseOk l := by
  obtain ⟨l, rfl, hl⟩ := case_of h
  exact ⟨l, by simp [elemV, g22], hl⟩
theorem intsV {n : Nat} {c : List Value} (h : Wt E.P n 23 c) : ∃ l : List Int, elemV E.P 23 c = rowT l ∧ l.length ≤ maxLen := by
  obtain ⟨l, rfl, hl, _⟩ := wt_ints u23 ui3 h
  exact ⟨l, by simp [elemV, g23]; rfl, hl⟩
def i64ok (z : Int) : Prop := -9223372036854775808 ≤ z ∧ z ≤ 9223372036854775807
theorem intV {n : Nat} {c : List Value} (h : Wt E.P n 3 c) : ∃ z : Int, elemV E.P 3 c = .int .i64 z ∧ i64ok z := by
  obtain ⟨z, rfl, hz⟩ := wt_int ui3 h
  exact ⟨z, by simp [elemV, a3], i64_wf hz⟩

end Go.Proofs.Ytbadgapficfbpaa.Bm
