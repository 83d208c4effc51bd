/-
 Chapter 36: the statement that all functions return what the reference returns. Conditions: none.
-/
import Derived.Test.YtbadgapficfbpaaQT22
import Derived.Test.YtbadgapficfbpaaQT25
namespace Go.Proofs.Ytbadgapficfbpaa
open Go Go.RowKit Go.ChangeShapes Go.Proofs.Ytbadgapficfbpaa.Bm
theorem own : ownKnob Try.prog.godebug = none := by kernel_rfl
theorem argT {t : TypeId} (h : t ∈ [22, 23, 3]) : t ∈ tlE ∧ E1.P.readableRec t = true ∧ t < E1.P.types.size := by
 simp only [List.mem_cons, List.not_mem_nil, or_false] at h
 rcases h with rfl | rfl | rfl
 ·exact ⟨in22, by kernel_rfl, of_decide_eq_true (by kernel_rfl)⟩
 ·exact ⟨in23, by kernel_rfl, of_decide_eq_true (by kernel_rfl)⟩
 ·exact ⟨in3, by kernel_rfl, of_decide_eq_true (by kernel_rfl)⟩
theorem pr3 : Try.f3.params = #[22, 23, 23, 23, 3] := rfl
set_option maxRecDepth 100000 in
theorem law3 (tr : List Value) (hl : tr.length = Try.f3.params.size) (h : ∀ (j : Nat) t u, Try.f3.params.toList[j]? = some t → tr[j]? = some u → ∃ n c, Wt E1.P n t c ∧ u = elemV E1.P t c) : ∃ h', L E1 3 tr [] 0 = some (.bool true, h') := by
 rw [pr3] at hl h
 obtain ⟨a0, tr, rfl⟩ := List.exists_cons_of_length_eq_add_one hl; have hl := Nat.succ.inj hl
 obtain ⟨a1, tr, rfl⟩ := List.exists_cons_of_length_eq_add_one hl; have hl := Nat.succ.inj hl
 obtain ⟨a2, tr, rfl⟩ := List.exists_cons_of_length_eq_add_one hl; have hl := Nat.succ.inj hl
 obtain ⟨a3, tr, rfl⟩ := List.exists_cons_of_length_eq_add_one hl; have hl := Nat.succ.inj hl
 obtain ⟨a4, tr, rfl⟩ := List.exists_cons_of_length_eq_add_one hl; have hl := Nat.succ.inj hl
 obtain rfl := List.eq_nil_of_length_eq_zero hl
 obtain ⟨n0, c0, w0, rfl⟩ := h 0 22 a0 rfl rfl
 obtain ⟨n1, c1, w1, rfl⟩ := h 1 23 a1 rfl rfl
 obtain ⟨n2, c2, w2, rfl⟩ := h 2 23 a2 rfl rfl
 obtain ⟨n3, c3, w3, rfl⟩ := h 3 23 a3 rfl rfl
 obtain ⟨n4, c4, w4, rfl⟩ := h 4 3 a4 rfl rfl
 obtain ⟨l, e0, hl, hc⟩ := caseV w0
 obtain ⟨Lb, e1, _⟩ := intsV w1
 obtain ⟨Rk, e2, _⟩ := intsV w2
 obtain ⟨S, e3, _⟩ := intsV w3
 obtain ⟨c, e4, _⟩ := intV w4
 replace e0 : elemV E1.P 22 c0 = _ := e0
 replace e1 : elemV E1.P 23 c1 = _ := e1
 replace e2 : elemV E1.P 23 c2 = _ := e2
 replace e3 : elemV E1.P 23 c3 = _ := e3
 replace e4 : elemV E1.P 3 c4 = _ := e4
 rw [e0, e1, e2, e3, e4]
 exact tells_spec false l Lb Rk S c hc hl
set_option maxRecDepth 100000 in
theorem lifted3 (os : Os) (started : os.Started) (H : Type) (enc : TypeId × Value → H) :
  ReturnsInHanded {} Try.checked os 3 .any (Rows.argueTellsSpec.pre6 enc Try.prog Try.f3 Rows.argueTellsRow.domain false) (Rows.argueTellsSpec.post enc Try.prog Try.f3 false true false false) := by
 refine returnsInHanded_of_change (C := Try.checked) own started (by kernel_rfl) Try.func3
  (ChangeSpec.witness6 (enc := enc) (C := Try.checked) false ⟨#[], #[.slice none 0 0, .slice none 0 0, .slice none 0 0, .slice none 0 0, .int .i64 0], []⟩ 8 (by kernel_rfl) (by kernel_rfl) (by kernel_rfl) (by kernel_rfl)) ?_
 intro W base args ds gs before hval hW _ _
 refine law_contract (E := E1) okE (orcE1 okE) (fun _ => rfl) laidE mapsE closedE (fun t ht => argT (by rw [pr3] at ht; simp only [List.mem_cons, List.not_mem_nil, or_false] at ht ⊢; rcases ht with h | h | h | h | h <;> simp [h])) rfl (tb := 4) rfl u4 (fun ds hds => ?_) law3 hval hW
 rw [pr3] at hds
 obtain ⟨d0, ds, rfl⟩ := List.exists_cons_of_length_eq_add_one hds; have hds := Nat.succ.inj hds
 obtain ⟨d1, ds, rfl⟩ := List.exists_cons_of_length_eq_add_one hds; have hds := Nat.succ.inj hds
 obtain ⟨d2, ds, rfl⟩ := List.exists_cons_of_length_eq_add_one hds; have hds := Nat.succ.inj hds
 obtain ⟨d3, ds, rfl⟩ := List.exists_cons_of_length_eq_add_one hds; have hds := Nat.succ.inj hds
 obtain ⟨d4, ds, rfl⟩ := List.exists_cons_of_length_eq_add_one hds; have hds := Nat.succ.inj hds
 obtain rfl := List.eq_nil_of_length_eq_zero hds
 rfl
theorem argueTells_holds : Rows.ArgueTellsSaid :=
 OpenClaim.holds_of_wide 3 Try.f3 rfl rfl rfl rfl rfl rfl rfl ⟨rfl, rfl, rfl, rfl, rfl⟩ rfl rfl rfl rfl rfl (by kernel_rfl) Try.func3 (by kernel_rfl)
  (of_decide_eq_true (by kernel_rfl)) (by unfold Func.isWrapper; first | (rw [if_pos (by decide +kernel)]; kernel_rfl) | (rw [if_neg (by decide +kernel)]; exact ⟨rfl, rfl⟩))
  (fun os started H enc _ => lifted3 os started H enc)
end Go.Proofs.Ytbadgapficfbpaa
