/-
 Chapter 26: the statement that the code tells what the reference tells. Conditions: none.
-/
import Derived.Test.YtcnafncmfiogcaaQJ23
import Derived.Test.YtcnafncmfiogcaaQJ28
namespace Go.Proofs.Ytcnafncmfiogcaa
open Go Go.RowKit Go.ChangeShapes Go.Proofs.Ytcnafncmfiogcaa.Bm
theorem own : ownKnob Try.prog.godebug = none := by kernel_rfl
theorem argT {t : TypeId} (h : t ∈ [22, 26, 29, 3, 33]) : t ∈ tlE ∧ E.P.readableRec t = true ∧ t < E.P.types.size := by
 simp only [List.mem_cons, List.not_mem_nil, or_false] at h
 rcases h with rfl | rfl | rfl | rfl | rfl
 ·exact ⟨in22, by kernel_rfl, of_decide_eq_true (by kernel_rfl)⟩
 ·exact ⟨in26, by kernel_rfl, of_decide_eq_true (by kernel_rfl)⟩
 ·exact ⟨in29, by kernel_rfl, of_decide_eq_true (by kernel_rfl)⟩
 ·exact ⟨in3, by kernel_rfl, of_decide_eq_true (by kernel_rfl)⟩
 ·exact ⟨in33, by kernel_rfl, of_decide_eq_true (by kernel_rfl)⟩
theorem pr7 : Try.f7.params = #[22, 26, 29, 3, 33] := rfl
set_option maxRecDepth 100000 in
theorem law7 (tr : List Value) (hl : tr.length = Try.f7.params.size) (h : ∀ (j : Nat) t u, Try.f7.params.toList[j]? = some t → tr[j]? = some u → ∃ n c, Wt E.P n t c ∧ u = elemV E.P t c) : ∃ h', L E 7 tr [] 0 = some (.bool true, h') := by
 rw [pr7] at hl h
 obtain ⟨a0, tr, rfl⟩ := List.exists_cons_of_length_eq_add_one hl; have hl := Nat.succ.inj hl
 obtain ⟨a1, tr, rfl⟩ := List.exists_cons_of_length_eq_add_one hl; have hl := Nat.succ.inj hl
 obtain ⟨a2, tr, rfl⟩ := List.exists_cons_of_length_eq_add_one hl; have hl := Nat.succ.inj hl
 obtain ⟨a3, tr, rfl⟩ := List.exists_cons_of_length_eq_add_one hl; have hl := Nat.succ.inj hl
 obtain ⟨a4, tr, rfl⟩ := List.exists_cons_of_length_eq_add_one hl; have hl := Nat.succ.inj hl
 obtain rfl := List.eq_nil_of_length_eq_zero hl
 obtain ⟨n0, c0, w0, rfl⟩ := h 0 22 a0 rfl rfl
 obtain ⟨n1, c1, w1, rfl⟩ := h 1 26 a1 rfl rfl
 obtain ⟨n2, c2, w2, rfl⟩ := h 2 29 a2 rfl rfl
 obtain ⟨n3, c3, w3, rfl⟩ := h 3 3 a3 rfl rfl
 obtain ⟨n4, c4, w4, rfl⟩ := h 4 33 a4 rfl rfl
 obtain ⟨P, e0, hl, hr⟩ := roomsV_of w0
 obtain ⟨p, e1, kl, kn, hu, hm, _, _⟩ := pbV w1
 obtain ⟨c, e2, _, hcb⟩ := intsV w2
 obtain ⟨v, e3, _⟩ := intV w3
 obtain ⟨T, e4, _, _⟩ := brsV w4
 rw [e0, e1, e2, e3, e4]
 exact tells26_law P p c v T ⟨fun r h => (hr r h).1, hl, kl, kn, hu, hm⟩ hcb
set_option maxRecDepth 100000 in
theorem lifted7 (os : Os) (started : os.Started) (H : Type) (enc : TypeId × Value → H) :
  ReturnsInHanded {} Try.checked os 7 .any (Rows.boundTellsSpec.pre6 enc Try.prog Try.f7 Rows.boundTellsRow.domain false) (Rows.boundTellsSpec.post enc Try.prog Try.f7 false true false false) := by
 refine returnsInHanded_of_change (C := Try.checked) own started (by kernel_rfl) Try.func7
  (ChangeSpec.witness6 (enc := enc) (C := Try.checked) false ⟨#[], #[.slice none 0 0, .agg #[.int .i64 0, .slice none 0 0, .int .i64 0, .slice none 0 0], .slice none 0 0, .int .i64 0, .slice none 0 0], []⟩ 8 (by kernel_rfl) (by kernel_rfl) (by kernel_rfl) (by kernel_rfl)) ?_
 intro W base args ds gs before hval hW _ _
 refine law_contract (E := E) okE (orcE) (fun _ => rfl) laidE mapsE closedE (fun t ht => argT (by rw [pr7] at ht; simp only [List.mem_cons, List.not_mem_nil, or_false] at ht ⊢; rcases ht with h | h | h | h | h <;> simp [h])) rfl (tb := 4) rfl u4 (fun ds hds => ?_) law7 hval hW
 rw [pr7] at hds
 obtain ⟨d0, ds, rfl⟩ := List.exists_cons_of_length_eq_add_one hds; have hds := Nat.succ.inj hds
 obtain ⟨d1, ds, rfl⟩ := List.exists_cons_of_length_eq_add_one hds; have hds := Nat.succ.inj hds
 obtain ⟨d2, ds, rfl⟩ := List.exists_cons_of_length_eq_add_one hds; have hds := Nat.succ.inj hds
 obtain ⟨d3, ds, rfl⟩ := List.exists_cons_of_length_eq_add_one hds; have hds := Nat.succ.inj hds
 obtain ⟨d4, ds, rfl⟩ := List.exists_cons_of_length_eq_add_one hds; have hds := Nat.succ.inj hds
 obtain rfl := List.eq_nil_of_length_eq_zero hds
 rfl
theorem boundTells_holds : Rows.BoundTellsSaid :=
 OpenClaim.holds_of_wide 7 Try.f7 rfl rfl rfl rfl rfl rfl rfl ⟨rfl, rfl, rfl, rfl, rfl⟩ rfl rfl rfl rfl rfl (by kernel_rfl) Try.func7 (by kernel_rfl)
  (of_decide_eq_true (by kernel_rfl)) (by unfold Func.isWrapper; first | (rw [if_pos (by decide +kernel)]; kernel_rfl) | (rw [if_neg (by decide +kernel)]; exact ⟨rfl, rfl⟩))
  (fun os started H enc _ => lifted7 os started H enc)
end Go.Proofs.Ytcnafncmfiogcaa
