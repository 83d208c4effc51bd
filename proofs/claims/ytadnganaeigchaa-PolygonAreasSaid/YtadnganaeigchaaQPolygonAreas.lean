/-
 Chapter 07: the statement on the areas of polygons. Conditions: none.
-/
import Derived.Test.YtadnganaeigchaaQT23
import Derived.Test.YtadnganaeigchaaQT32
namespace Go.Proofs.Ytadnganaeigchaa
open Go Go.RowKit Go.ChangeShapes Go.Proofs.Ytadnganaeigchaa.Bm
theorem own : ownKnob Try.prog.godebug = none := by kernel_rfl
theorem argT {t : TypeId} (h : t ∈ [22]) : t ∈ tlE ∧ E.P.readableRec t = true ∧ t < E.P.types.size := by
 simp only [List.mem_cons, List.not_mem_nil, or_false] at h
 subst h
 ·exact ⟨in22, by kernel_rfl, of_decide_eq_true (by kernel_rfl)⟩
theorem pr3 : Try.f3.params = #[22] := rfl
set_option maxRecDepth 100000 in
theorem law3 (tr : List Value) (hl : tr.length = Try.f3.params.size) (h : ∀ (j : Nat) t u, Try.f3.params.toList[j]? = some t → tr[j]? = some u → ∃ n c, Wt E.P n t c ∧ u = elemV E.P t c) : ∃ h', L E 3 tr [] 0 = some (.bool true, h') := by
 rw [pr3] at hl h
 obtain ⟨a0, tr, rfl⟩ := List.exists_cons_of_length_eq_add_one hl; have hl := Nat.succ.inj hl
 obtain rfl := List.eq_nil_of_length_eq_zero hl
 obtain ⟨n0, c0, w0, rfl⟩ := h 0 22 a0 rfl rfl
 obtain ⟨p, e0⟩ := ptsV w0
 rw [e0]
 exact areas_law p
set_option maxRecDepth 100000 in
theorem lifted3 (os : Os) (started : os.Started) (H : Type) (enc : TypeId × Value → H) :
  ReturnsInHanded {} Try.checked os 3 .any (Rows.polygonAreasSpec.pre6 enc Try.prog Try.f3 Rows.polygonAreasRow.domain false) (Rows.polygonAreasSpec.post enc Try.prog Try.f3 false true false false) := by
 refine returnsInHanded_of_change (C := Try.checked) own started (by kernel_rfl) Try.func3
  (ChangeSpec.witness6 (enc := enc) (C := Try.checked) false ⟨#[], #[.slice none 0 0], []⟩ 8 (by kernel_rfl) (by kernel_rfl) (by kernel_rfl) (by kernel_rfl)) ?_
 intro W base args ds gs before hval hW _ _
 refine law_contract (E := E) okE (orcE) (fun _ => rfl) laidE mapsE closedE (fun t ht => argT (by rw [pr3] at ht; simp only [List.mem_cons, List.not_mem_nil, or_false] at ht ⊢; simp [ht])) rfl (tb := 4) rfl u4 (fun ds hds => ?_) law3 hval hW
 rw [pr3] at hds
 obtain ⟨d0, ds, rfl⟩ := List.exists_cons_of_length_eq_add_one hds; have hds := Nat.succ.inj hds
 obtain rfl := List.eq_nil_of_length_eq_zero hds
 rfl
theorem polygonAreas_holds : Rows.PolygonAreasSaid :=
 OpenClaim.holds_of_wide 3 Try.f3 rfl rfl rfl rfl rfl rfl rfl ⟨rfl, rfl, rfl, rfl, rfl⟩ rfl rfl rfl rfl rfl (by kernel_rfl) Try.func3 (by kernel_rfl)
  (of_decide_eq_true (by kernel_rfl)) (by unfold Func.isWrapper; first | (rw [if_pos (by decide +kernel)]; kernel_rfl) | (rw [if_neg (by decide +kernel)]; exact ⟨rfl, rfl⟩))
  (fun os started H enc _ => lifted3 os started H enc)
end Go.Proofs.Ytadnganaeigchaa
