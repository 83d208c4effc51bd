/-
  Chapter 18: the statement on overlaps. Conditions: none.
-/
import Derived.Test.YtimjfondgdhfcaaQE22
import Derived.Test.YtimjfondgdhfcaaQE26
namespace Go.Proofs.Ytimjfondgdhfcaa
open Go Go.RowKit Go.ChangeShapes Go.Proofs.Ytimjfondgdhfcaa.Bm
theorem own : ownKnob Try.prog.godebug = none := by kernel_rfl
theorem argT {t : TypeId} (h : t ∈ [30, 31, 3]) : t ∈ tlE ∧ E.P.readableRec t = true ∧ t < E.P.types.size := by
  simp only [List.mem_cons, List.not_mem_nil, or_false] at h
  rcases h with rfl | rfl | rfl
  · exact ⟨in30, by kernel_rfl, of_decide_eq_true (by kernel_rfl)⟩
  · exact ⟨in31, by kernel_rfl, of_decide_eq_true (by kernel_rfl)⟩
  · exact ⟨in3, by kernel_rfl, of_decide_eq_true (by kernel_rfl)⟩
theorem pr5 : Try.f5.params = #[30] := rfl
set_option maxRecDepth 100000 in
theorem law5 (tr : List Value) (hl : tr.length = Try.f5.params.size) (h : ∀ (j : Nat) t u, Try.f5.params.toList[j]? = some t → tr[j]? = some u → ∃ n c, Wt E.P n t c ∧ u = elemV E.P t c) : ∃ h', L E 5 tr [] 0 = some (.bool true, h') := by
  rw [pr5] at hl h
  obtain ⟨a0, tr, rfl⟩ := List.exists_cons_of_length_eq_add_one hl; have hl := Nat.succ.inj hl
  obtain rfl := List.eq_nil_of_length_eq_zero hl
  obtain ⟨n0, c0, w0, rfl⟩ := h 0 30 a0 rfl rfl
  obtain ⟨p, e0, hp⟩ := planV w0
  rw [e0]
  exact overlaps_law p hp
set_option maxRecDepth 100000 in
theorem lifted5 (os : Os) (started : os.Started) (H : Type) (enc : TypeId × Value → H) :
    ReturnsInHanded {} Try.checked os 5 .any (Rows.zoningOverlapsSpec.pre6 enc Try.prog Try.f5 Rows.zoningOverlapsRow.domain false) (Rows.zoningOverlapsSpec.post enc Try.prog Try.f5 false true false false) := by
  refine returnsInHanded_of_change (C := Try.checked) own started (by kernel_rfl) Try.func5
    (ChangeSpec.witness6 (enc := enc) (C := Try.checked) false ⟨#[], #[.agg #[.slice none 0 0, .slice none 0 0, .slice none 0 0, .slice none 0 0, .slice none 0 0, .slice none 0 0, .slice none 0 0, .int .i64 0]], []⟩ 8 (by kernel_rfl) (by kernel_rfl) (by kernel_rfl) (by kernel_rfl)) ?_
  intro W base args ds gs before hval hW _ _
  refine law_contract (E := E) okE (orcE) (fun _ => rfl) laidE mapsE closedE (fun t ht => argT (by rw [pr5] at ht; simp only [List.mem_cons, List.not_mem_nil, or_false] at ht ⊢; simp [ht])) rfl (tb := 4) rfl u4 (fun ds hds => ?_) law5 hval hW
  rw [pr5] at hds
  obtain ⟨d0, ds, rfl⟩ := List.exists_cons_of_length_eq_add_one hds; have hds := Nat.succ.inj hds
  obtain rfl := List.eq_nil_of_length_eq_zero hds
  rfl
theorem zoningOverlaps_holds : Rows.ZoningOverlapsSaid :=
  OpenClaim.holds_of_wide 5 Try.f5 rfl rfl rfl rfl rfl rfl rfl ⟨rfl, rfl, rfl, rfl, rfl⟩ rfl rfl rfl rfl rfl (by kernel_rfl) Try.func5 (by kernel_rfl)
    (of_decide_eq_true (by kernel_rfl)) (by unfold Func.isWrapper; first | (rw [if_pos (by decide +kernel)]; kernel_rfl) | (rw [if_neg (by decide +kernel)]; exact ⟨rfl, rfl⟩))
    (fun os started H enc _ => lifted5 os started H enc)
end Go.Proofs.Ytimjfondgdhfcaa
