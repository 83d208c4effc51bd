/-
  Chapter 21: the statement that nothing changes between days. Conditions: none.
-/
import Derived.Test.YtippkkkddhnmhaaC21j
namespace Go.Proofs.Ytippkkkddhnmhaa
open Go Go.RowKit Go.ChangeShapes Go.Proofs.Ytippkkkddhnmhaa.Bm

theorem own : ownKnob Try.prog.godebug = none := by kernel_rfl
theorem planT {t : TypeId} (h : t ∈ [30, 31, 3, 51]) : t ∈ tlE ∧ E.P.readableRec t = true ∧ t < E.P.types.size := by
  simp only [List.mem_cons, List.not_mem_nil, or_false] at h
  rcases h with rfl | rfl | rfl | rfl
  · exact ⟨in30, by kernel_rfl, of_decide_eq_true (by kernel_rfl)⟩
  · exact ⟨in31, by kernel_rfl, of_decide_eq_true (by kernel_rfl)⟩
  · exact ⟨in3, by kernel_rfl, of_decide_eq_true (by kernel_rfl)⟩
  · exact ⟨in51, by kernel_rfl, of_decide_eq_true (by kernel_rfl)⟩

theorem p5 : Try.f5.params = #[30, 31, 3, 51] := rfl
set_option maxRecDepth 100000 in
theorem law5 (tr : List Value) (hl : tr.length = Try.f5.params.size) (h : ∀ (j : Nat) t u, Try.f5.params.toList[j]? = some t → tr[j]? = some u → ∃ n c, Wt E.P n t c ∧ u = elemV E.P t c) : ∃ h', L E 5 tr [] 0 = some (.bool true, h') := by
  rw [p5] at hl h
  obtain ⟨a0, tr, rfl⟩ := List.exists_cons_of_length_eq_add_one hl; have hl := Nat.succ.inj hl
  obtain ⟨a1, tr, rfl⟩ := List.exists_cons_of_length_eq_add_one hl; have hl := Nat.succ.inj hl
  obtain ⟨a2, tr, rfl⟩ := List.exists_cons_of_length_eq_add_one hl; have hl := Nat.succ.inj hl
  obtain ⟨a3, tr, rfl⟩ := List.exists_cons_of_length_eq_add_one hl; have hl := Nat.succ.inj hl
  obtain rfl := List.eq_nil_of_length_eq_zero hl
  obtain ⟨n0, c0, w0, rfl⟩ := h 0 30 a0 rfl rfl
  obtain ⟨n1, c1, w1, rfl⟩ := h 1 31 a1 rfl rfl
  obtain ⟨n2, c2, w2, rfl⟩ := h 2 3 a2 rfl rfl
  obtain ⟨n3, c3, w3, rfl⟩ := h 3 51 a3 rfl rfl
  obtain ⟨p, e0, hp⟩ := planV w0
  obtain ⟨zones, e1, hz⟩ := strsV w1
  obtain ⟨day, e2, hd⟩ := intV w2
  obtain ⟨more, e3, hm⟩ := u16V w3
  rw [e0, e1, e2, e3]
  exact stable_spec false false p zones day more hp hz hd hm

set_option maxRecDepth 100000 in
theorem lifted5 (os : Os) (started : os.Started) (H : Type) (enc : TypeId × Value → H) :
    ReturnsInHanded {} Try.checked os 5 .any (Rows.clauseStableSpec.pre6 enc Try.prog Try.f5 Rows.clauseStableRow.domain false) (Rows.clauseStableSpec.post enc Try.prog Try.f5 false true false false) := by
  refine returnsInHanded_of_change (C := Try.checked) own started (by kernel_rfl) Try.func5
    (ChangeSpec.witness6 (enc := enc) (C := Try.checked) false ⟨#[], #[.agg #[.slice none 0 0, .slice none 0 0, .slice none 0 0, .slice none 0 0, .slice none 0 0, .slice none 0 0, .slice none 0 0, .int .i64 0], .slice none 0 0, .int .i64 0, .int .u16 0], []⟩ 8 (by kernel_rfl) (by kernel_rfl) (by kernel_rfl) (by kernel_rfl)) ?_
  intro W base args ds gs before hval hW _ _
  refine law_contract (E := E) okE orcE (fun _ => rfl) laidE mapsE closedE (fun t ht => planT (by rw [p5] at ht; exact ht)) rfl (tb := 4) rfl u4 (fun ds hds => ?_) law5 hval hW
  rw [p5] at hds
  obtain ⟨d0, ds, rfl⟩ := List.exists_cons_of_length_eq_add_one hds; have hds := Nat.succ.inj hds
  obtain ⟨d1, ds, rfl⟩ := List.exists_cons_of_length_eq_add_one hds; have hds := Nat.succ.inj hds
  obtain ⟨d2, ds, rfl⟩ := List.exists_cons_of_length_eq_add_one hds; have hds := Nat.succ.inj hds
  obtain ⟨d3, ds, rfl⟩ := List.exists_cons_of_length_eq_add_one hds; have hds := Nat.succ.inj hds
  obtain rfl := List.eq_nil_of_length_eq_zero hds
  rfl

theorem clauseStable_holds : Rows.ClauseStableSaid :=
  OpenClaim.holds_of_wide 5 Try.f5 rfl rfl rfl rfl rfl rfl rfl ⟨rfl, rfl, rfl, rfl, rfl⟩ rfl rfl rfl rfl rfl (by kernel_rfl) Try.func5 (by kernel_rfl)
    (of_decide_eq_true (by kernel_rfl)) (by unfold Func.isWrapper; first | (rw [if_pos (by decide +kernel)]; kernel_rfl) | (rw [if_neg (by decide +kernel)]; exact ⟨rfl, rfl⟩))
    (fun os started H enc _ => lifted5 os started H enc)

end Go.Proofs.Ytippkkkddhnmhaa
