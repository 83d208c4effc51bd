/-
  Chapter 27: the statement about more and fewer names, as a tied card. Conditions: none.
-/
import Derived.Test.YtgefjhjmkejjbaaDoorQA21
import Derived.Test.YtgefjhjmkejjbaaDoorQA26
import Derived.Test.YtgefjhjmkejjbaaDoorCards
import Derived.Test.YtgefjhjmkejjbaaDoorTie
namespace Go.Proofs.YtgefjhjmkejjbaaDoor
open Go Go.RowKit Go.ChangeShapes Go.Proofs.YtgefjhjmkejjbaaDoor.Bm
theorem own : ownKnob Tryd.prog.godebug = none := by kernel_rfl
theorem argT {t : TypeId} (h : t ∈ [22, 23, 24, 5]) : t ∈ tlE ∧ E.P.readableRec t = true ∧ t < E.P.types.size := by
  simp only [List.mem_cons, List.not_mem_nil, or_false] at h
  rcases h with rfl | rfl | rfl | rfl
  · exact ⟨in22, by kernel_rfl, of_decide_eq_true (by kernel_rfl)⟩
  · exact ⟨in23, by kernel_rfl, of_decide_eq_true (by kernel_rfl)⟩
  · exact ⟨in24, by kernel_rfl, of_decide_eq_true (by kernel_rfl)⟩
  · exact ⟨in5, by kernel_rfl, of_decide_eq_true (by kernel_rfl)⟩
theorem door_met (os : Os) (args : Array Value) : laidMetH Tryd.prog laid2 ((World.doorLaid Tryd.prog 400 os).forCall (fun _ _ => 0) ⟨#[], args, []⟩).memory :=
  laidMetH_of_parts3 (fuel := 8) (laidMet_of_run' 8 (by kernel_rfl) (by kernel_rfl)) (by kernel_rfl) (by kernel_rfl)
theorem pr6 : Tryd.f6.params = #[22, 23, 5, 5] := rfl
set_option maxRecDepth 100000 in
theorem law6 (tr : List Value) (hl : tr.length = Tryd.f6.params.size) (h : ∀ (j : Nat) t u, Tryd.f6.params.toList[j]? = some t → tr[j]? = some u → ∃ n c, Wt E.P n t c ∧ u = elemV E.P t c) : ∃ h', Bm.L E 6 tr [] 0 = some (.bool true, h') := by
  rw [pr6] at hl h
  obtain ⟨a0, tr, rfl⟩ := List.exists_cons_of_length_eq_add_one hl; have hl := Nat.succ.inj hl
  obtain ⟨a1, tr, rfl⟩ := List.exists_cons_of_length_eq_add_one hl; have hl := Nat.succ.inj hl
  obtain ⟨a2, tr, rfl⟩ := List.exists_cons_of_length_eq_add_one hl; have hl := Nat.succ.inj hl
  obtain ⟨a3, tr, rfl⟩ := List.exists_cons_of_length_eq_add_one hl; have hl := Nat.succ.inj hl
  obtain rfl := List.eq_nil_of_length_eq_zero hl
  obtain ⟨n0, c0, w0, rfl⟩ := h 0 22 a0 rfl rfl
  obtain ⟨n1, c1, w1, rfl⟩ := h 1 23 a1 rfl rfl
  obtain ⟨n2, c2, w2, rfl⟩ := h 2 5 a2 rfl rfl
  obtain ⟨n3, c3, w3, rfl⟩ := h 3 5 a3 rfl rfl
  obtain ⟨A, e0, hAl, hA⟩ := alV w0
  obtain ⟨mo, e1, hm⟩ := strsV w1
  obtain ⟨z1, e2, z1a, z1b⟩ := u8V w2
  obtain ⟨z2, e3, z2a, z2b⟩ := u8V w3
  rw [e0, e1, e2, e3]
  exact (by obtain ⟨m1, rfl⟩ := Int.eq_ofNat_of_zero_le z1a; obtain ⟨m2, rfl⟩ := Int.eq_ofNat_of_zero_le z2a; exact grows_law (fun x hx => (hA x hx).1) hAl hm (by omega) (by omega))
set_option maxRecDepth 100000 in
theorem lifted6 (os : Os) (started : os.Started) (H : Type) (enc : TypeId × Value → H) :
    ReturnsInHanded {} Tryd.checked os 6 .any (fun w args => (Rows.coreGrowsSpec.pre enc Tryd.prog Tryd.f6 [] false w args ∧ laidMetH Tryd.prog laid2 w) ∧ sizedMet enc Tryd.prog Tryd.f6 (OpenSpec.ofChange Rows.coreGrowsSpec) false w args) (Rows.coreGrowsSpec.post enc Tryd.prog Tryd.f6 false true false false) := by
  refine returnsInHanded_of_change_and (C := Tryd.checked) (X := fun w _ => laidMetH Tryd.prog laid2 w) (fun _ _ _ hh h => h.of_heap hh) own started (by kernel_rfl) Tryd.func6
    (ChangeSpec.witness_shaped (enc := enc) (C := Tryd.checked) (os := os) (X := fun w _ => laidMetH Tryd.prog laid2 w) false (World.doorLaid Tryd.prog 400 os) #[.slice none 0 0, .slice none 0 0, .int .u8 0, .int .u8 0] 8 rfl (World.shaped_of_RefB (by kernel_rfl) (by kernel_rfl)) (by kernel_rfl) (by kernel_rfl) (by kernel_rfl) (door_met os _)) ?_
  intro W base args ds gs before hval hW _ _ hL _
  refine law_contractG (E := E) okE orcE laidE mapsE closedE (fun t ht => argT (by rw [pr6] at ht; simp only [List.mem_cons, List.not_mem_nil, or_false] at ht ⊢; rcases ht with h | h | h | h <;> simp [h])) rfl (tb := 4) rfl u4 (fun ds hds => ?_) law6 (fun g v hg => glob_met hL g v hg) hval hW
  rw [pr6] at hds
  obtain ⟨d0, ds, rfl⟩ := List.exists_cons_of_length_eq_add_one hds; have hds := Nat.succ.inj hds
  obtain ⟨d1, ds, rfl⟩ := List.exists_cons_of_length_eq_add_one hds; have hds := Nat.succ.inj hds
  obtain ⟨d2, ds, rfl⟩ := List.exists_cons_of_length_eq_add_one hds; have hds := Nat.succ.inj hds
  obtain ⟨d3, ds, rfl⟩ := List.exists_cons_of_length_eq_add_one hds; have hds := Nat.succ.inj hds
  obtain rfl := List.eq_nil_of_length_eq_zero hds
  rfl
theorem coreGrows_row : Rows.CoreGrowsSaid :=
  OpenClaim.holds_of_wide 6 Tryd.f6 rfl rfl rfl rfl rfl rfl rfl ⟨rfl, rfl, rfl, rfl, rfl⟩ rfl rfl rfl rfl rfl (by kernel_rfl) Tryd.func6 (by kernel_rfl)
    (of_decide_eq_true (by kernel_rfl)) (by unfold Func.isWrapper; first | (rw [if_pos (by decide +kernel)]; kernel_rfl) | (rw [if_neg (by decide +kernel)]; exact ⟨rfl, rfl⟩))
    (fun os started H enc _ => lifted6 os started H enc)
theorem coreGrows_holds : Rows.CoreGrowsCardSaid :=
  Claim7.holds_tied_plain_at .later [] [.data, .data] true (true, "9e9cf80370c187103ffbf5e4cb8ff2df6c519d2ece61b31242e453ee470e8dc0") false
    coreGrows_row (fun _ h => by cases h) (by kernel_rfl) (fun _ h => by cases h) coreGrows_row_tie rfl ⟨rfl, rfl⟩ (by kernel_rfl) rfl
    (fun f fn hf hfn => by
      obtain rfl : f = 6 := Option.some.inj ((show Tryd.prog.funcNamed "greenbelt/greenbeltlaw27.CoreGrows" = some 6 by kernel_rfl).symm.trans hf) |>.symm
      obtain rfl : fn = Tryd.f6 := (Option.some.inj (Tryd.func6.symm.trans hfn)).symm
      exact ⟨by kernel_rfl, fun j t ht => by
        rw [pr6] at ht
        have hm : t ∈ [22, 23, 5, 5] := by simpa using Array.mem_of_getElem? ht
        have hall : ([22, 23, 5, 5].all fun u => !Tryd.prog.wantsStandIn u) = true := by kernel_rfl
        exact (show Tryd.prog.wantsStandIn t = false by simpa using List.all_eq_true.1 hall t hm)⟩)
    (by kernel_rfl)
end Go.Proofs.YtgefjhjmkejjbaaDoor
