/-
  Chapter 25: the statement that what is less strict allows as much. Conditions: none.
-/
import Derived.Test.YtcnafncmfiogcaaQM23
import Derived.Test.YtcnafncmfiogcaaQM24
namespace Go.Proofs.Ytcnafncmfiogcaa
open Go Go.RowKit Go.ChangeShapes Go.Proofs.Ytcnafncmfiogcaa.Bm
theorem own : ownKnob Try.prog.godebug = none := by kernel_rfl
theorem argT {t : TypeId} (h : t ∈ [22, 26, 5, 44]) : t ∈ tlE ∧ E.P.readableRec t = true ∧ t < E.P.types.size := by
  simp only [List.mem_cons, List.not_mem_nil, or_false] at h
  rcases h with rfl | rfl | rfl | rfl
  · exact ⟨in22, by kernel_rfl, of_decide_eq_true (by kernel_rfl)⟩
  · exact ⟨in26, by kernel_rfl, of_decide_eq_true (by kernel_rfl)⟩
  · exact ⟨in5, by kernel_rfl, of_decide_eq_true (by kernel_rfl)⟩
  · exact ⟨in44, by kernel_rfl, of_decide_eq_true (by kernel_rfl)⟩
theorem pr6 : Try.f6.params = #[22, 26, 5, 44] := rfl
set_option maxRecDepth 100000 in
theorem law6 (tr : List Value) (hl : tr.length = Try.f6.params.size) (h : ∀ (j : Nat) t u, Try.f6.params.toList[j]? = some t → tr[j]? = some u → ∃ n c, Wt E.P n t c ∧ u = elemV E.P t c) : ∃ h', L E 6 tr [] 0 = some (.bool true, h') := by
  rw [pr6] at hl h
  obtain ⟨a0, tr, rfl⟩ := List.exists_cons_of_length_eq_add_one hl; have hl := Nat.succ.inj hl
  obtain ⟨a1, tr, rfl⟩ := List.exists_cons_of_length_eq_add_one hl; have hl := Nat.succ.inj hl
  obtain ⟨a2, tr, rfl⟩ := List.exists_cons_of_length_eq_add_one hl; have hl := Nat.succ.inj hl
  obtain ⟨a3, tr, rfl⟩ := List.exists_cons_of_length_eq_add_one hl; have hl := Nat.succ.inj hl
  obtain rfl := List.eq_nil_of_length_eq_zero hl
  obtain ⟨n0, c0, w0, rfl⟩ := h 0 22 a0 rfl rfl
  obtain ⟨n1, c1, w1, rfl⟩ := h 1 26 a1 rfl rfl
  obtain ⟨n2, c2, w2, rfl⟩ := h 2 5 a2 rfl rfl
  obtain ⟨n3, c3, w3, rfl⟩ := h 3 44 a3 rfl rfl
  obtain ⟨P, e0, hl, hr⟩ := roomsV_of w0
  obtain ⟨p, e1, kl, kn, hu, hm, _, _, k1, k2⟩ := pbV w1
  obtain ⟨u, e2, u0, u1⟩ := u8V w2
  obtain ⟨m, e3, m0, m1⟩ := u16V w3
  rw [e0, e1, e2, e3]
  exact more_law P p u m ⟨fun r h => (hr r h).1, hl, kl, kn, hu, hm⟩ k1 k2 ⟨u0, u1⟩ ⟨m0, m1⟩
set_option maxRecDepth 100000 in
theorem lifted6 (os : Os) (started : os.Started) (H : Type) (enc : TypeId × Value → H) :
    ReturnsInHanded {} Try.checked os 6 .any (Rows.capacityMoreSpec.pre6 enc Try.prog Try.f6 Rows.capacityMoreRow.domain false) (Rows.capacityMoreSpec.post enc Try.prog Try.f6 false true false false) := by
  refine returnsInHanded_of_change (C := Try.checked) own started (by kernel_rfl) Try.func6
    (ChangeSpec.witness6 (enc := enc) (C := Try.checked) false ⟨#[], #[.slice none 0 0, .agg #[.int .i64 0, .slice none 0 0, .int .i64 0, .slice none 0 0], .int .u8 0, .int .u16 0], []⟩ 8 (by kernel_rfl) (by kernel_rfl) (by kernel_rfl) (by kernel_rfl)) ?_
  intro W base args ds gs before hval hW _ _
  refine law_contract (E := E) okE (orcE) (fun _ => rfl) laidE mapsE closedE (fun t ht => argT (by rw [pr6] at ht; simp only [List.mem_cons, List.not_mem_nil, or_false] at ht ⊢; rcases ht with h | h | h | h <;> simp [h])) rfl (tb := 4) rfl u4 (fun ds hds => ?_) law6 hval hW
  rw [pr6] at hds
  obtain ⟨d0, ds, rfl⟩ := List.exists_cons_of_length_eq_add_one hds; have hds := Nat.succ.inj hds
  obtain ⟨d1, ds, rfl⟩ := List.exists_cons_of_length_eq_add_one hds; have hds := Nat.succ.inj hds
  obtain ⟨d2, ds, rfl⟩ := List.exists_cons_of_length_eq_add_one hds; have hds := Nat.succ.inj hds
  obtain ⟨d3, ds, rfl⟩ := List.exists_cons_of_length_eq_add_one hds; have hds := Nat.succ.inj hds
  obtain rfl := List.eq_nil_of_length_eq_zero hds
  rfl
theorem capacityMore_holds : Rows.CapacityMoreSaid :=
  OpenClaim.holds_of_wide 6 Try.f6 rfl rfl rfl rfl rfl rfl rfl ⟨rfl, rfl, rfl, rfl, rfl⟩ rfl rfl rfl rfl rfl (by kernel_rfl) Try.func6 (by kernel_rfl)
    (of_decide_eq_true (by kernel_rfl)) (by unfold Func.isWrapper; first | (rw [if_pos (by decide +kernel)]; kernel_rfl) | (rw [if_neg (by decide +kernel)]; exact ⟨rfl, rfl⟩))
    (fun os started H enc _ => lifted6 os started H enc)
end Go.Proofs.Ytcnafncmfiogcaa
