/-
  Chapter 32: the statement on rights that are split. Conditions: none.
-/
import Derived.Test.YtjkemccfcabhgaaQA23
import Derived.Test.YtjkemccfcabhgaaQA25
namespace Go.Proofs.Ytjkemccfcabhgaa
open Go Go.RowKit Go.ChangeShapes Go.Proofs.Ytjkemccfcabhgaa.Bm
theorem own : ownKnob Try.prog.godebug = none := by kernel_rfl
theorem argT {t : TypeId} (h : t ∈ [37, 38, 41, 3]) : t ∈ tlE ∧ E.P.readableRec t = true ∧ t < E.P.types.size := by
  simp only [List.mem_cons, List.not_mem_nil, or_false] at h
  rcases h with rfl | rfl | rfl | rfl
  · exact ⟨in37, by kernel_rfl, of_decide_eq_true (by kernel_rfl)⟩
  · exact ⟨in38, by kernel_rfl, of_decide_eq_true (by kernel_rfl)⟩
  · exact ⟨in41, by kernel_rfl, of_decide_eq_true (by kernel_rfl)⟩
  · exact ⟨in3, by kernel_rfl, of_decide_eq_true (by kernel_rfl)⟩
theorem pr4 : Try.f4.params = #[37, 38, 41, 3, 3] := rfl
set_option maxRecDepth 100000 in
theorem law4 (tr : List Value) (hl : tr.length = Try.f4.params.size) (h : ∀ (j : Nat) t u, Try.f4.params.toList[j]? = some t → tr[j]? = some u → ∃ n c, Wt E.P n t c ∧ u = elemV E.P t c) : ∃ h', L E 4 tr [] 0 = some (.bool true, h') := by
  rw [pr4] at hl h
  obtain ⟨a0, tr, rfl⟩ := List.exists_cons_of_length_eq_add_one hl; have hl := Nat.succ.inj hl
  obtain ⟨a1, tr, rfl⟩ := List.exists_cons_of_length_eq_add_one hl; have hl := Nat.succ.inj hl
  obtain ⟨a2, tr, rfl⟩ := List.exists_cons_of_length_eq_add_one hl; have hl := Nat.succ.inj hl
  obtain ⟨a3, tr, rfl⟩ := List.exists_cons_of_length_eq_add_one hl; have hl := Nat.succ.inj hl
  obtain ⟨a4, tr, rfl⟩ := List.exists_cons_of_length_eq_add_one hl; have hl := Nat.succ.inj hl
  obtain rfl := List.eq_nil_of_length_eq_zero hl
  obtain ⟨n0, c0, w0, rfl⟩ := h 0 37 a0 rfl rfl
  obtain ⟨n1, c1, w1, rfl⟩ := h 1 38 a1 rfl rfl
  obtain ⟨n2, c2, w2, rfl⟩ := h 2 41 a2 rfl rfl
  obtain ⟨n3, c3, w3, rfl⟩ := h 3 3 a3 rfl rfl
  obtain ⟨n4, c4, w4, rfl⟩ := h 4 3 a4 rfl rfl
  obtain ⟨t, e0, ht, hk⟩ := townV w0
  obtain ⟨l, e1, _, hr⟩ := rightsV w1
  obtain ⟨c, e2, hc⟩ := capV w2
  obtain ⟨x, e3, hx⟩ := intV w3
  obtain ⟨d, e4, hd⟩ := intV w4
  rw [e0, e1, e2, e3, e4]
  exact split_law t l c x d ⟨hk, Nat.le_trans ht (by decide), Rec.ok_some, hr⟩
set_option maxRecDepth 100000 in
theorem lifted4 (os : Os) (started : os.Started) (H : Type) (enc : TypeId × Value → H) :
    ReturnsInHanded {} Try.checked os 4 .any (Rows.capSplitSpec.pre6 enc Try.prog Try.f4 Rows.capSplitRow.domain false) (Rows.capSplitSpec.post enc Try.prog Try.f4 false true false false) := by
  refine returnsInHanded_of_change (C := Try.checked) own started (by kernel_rfl) Try.func4
    (ChangeSpec.witness6 (enc := enc) (C := Try.checked) false ⟨#[], #[.agg #[.slice none 0 0, .slice none 0 0, .slice none 0 0, .slice none 0 0, .slice none 0 0, .slice none 0 0, .slice none 0 0, .int .i64 0, .slice none 0 0, .slice none 0 0, .slice none 0 0, .slice none 0 0, .slice none 0 0], .slice none 0 0, .agg #[.string ⟨#[]⟩, .int .i64 0, .int .i64 0, .slice none 0 0], .int .i64 0, .int .i64 0], []⟩ 8 (by kernel_rfl) (by kernel_rfl) (by kernel_rfl) (by kernel_rfl)) ?_
  intro W base args ds gs before hval hW _ _
  refine law_contract (E := E) okE (orcE) (fun _ => rfl) laidE mapsE closedE (fun t ht => argT (by rw [pr4] at ht; simp only [List.mem_cons, List.not_mem_nil, or_false] at ht ⊢; rcases ht with h | h | h | h | h <;> simp [h])) rfl (tb := 4) rfl u4 (fun ds hds => ?_) law4 hval hW
  rw [pr4] at hds
  obtain ⟨d0, ds, rfl⟩ := List.exists_cons_of_length_eq_add_one hds; have hds := Nat.succ.inj hds
  obtain ⟨d1, ds, rfl⟩ := List.exists_cons_of_length_eq_add_one hds; have hds := Nat.succ.inj hds
  obtain ⟨d2, ds, rfl⟩ := List.exists_cons_of_length_eq_add_one hds; have hds := Nat.succ.inj hds
  obtain ⟨d3, ds, rfl⟩ := List.exists_cons_of_length_eq_add_one hds; have hds := Nat.succ.inj hds
  obtain ⟨d4, ds, rfl⟩ := List.exists_cons_of_length_eq_add_one hds; have hds := Nat.succ.inj hds
  obtain rfl := List.eq_nil_of_length_eq_zero hds
  rfl
theorem capSplit_holds : Rows.CapSplitSaid :=
  OpenClaim.holds_of_wide 4 Try.f4 rfl rfl rfl rfl rfl rfl rfl ⟨rfl, rfl, rfl, rfl, rfl⟩ rfl rfl rfl rfl rfl (by kernel_rfl) Try.func4 (by kernel_rfl)
    (of_decide_eq_true (by kernel_rfl)) (by unfold Func.isWrapper; first | (rw [if_pos (by decide +kernel)]; kernel_rfl) | (rw [if_neg (by decide +kernel)]; exact ⟨rfl, rfl⟩))
    (fun os started H enc _ => lifted4 os started H enc)
end Go.Proofs.Ytjkemccfcabhgaa
