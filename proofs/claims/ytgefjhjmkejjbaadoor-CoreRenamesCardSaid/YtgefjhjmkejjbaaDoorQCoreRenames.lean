/-
  Chapter 27: the statement about other names, as a tied card. Conditions: none.
-/
import Derived.Test.YtgefjhjmkejjbaaDoorQB21
import Derived.Test.YtgefjhjmkejjbaaDoorQB24
import Derived.Test.YtgefjhjmkejjbaaDoorCards
import Derived.Test.YtgefjhjmkejjbaaDoorTie
namespace Go.Proofs.YtgefjhjmkejjbaaDoor
open Go Go.RowKit Go.ChangeShapes Go.Proofs.YtgefjhjmkejjbaaDoor.Bm
theorem own : ownKnob Tryd.prog.godebug = none := by kernel_rfl
theorem argT {t : TypeId} (h : t ∈ [22, 23, 24, 5]) : t ∈ tlE ∧ E.P.readableRec t = true ∧ t < E.P.types.size := by
  simp only [List.mem_cons, List.not_mem_nil, or_false] at h
  rcases h with rfl | rfl | rfl | rfl
  · exact ⟨in22, by kernel_rfl, of_decide_eq_true (by kernel_rfl)⟩
  · exact ⟨in23, by kernel_rfl, of_decide_eq_true (by kernel_rfl)⟩
  · exact ⟨in24, by kernel_rfl, of_decide_eq_true (by kernel_rfl)⟩
  · exact ⟨in5, by kernel_rfl, of_decide_eq_true (by kernel_rfl)⟩
theorem door_met (os : Os) (args : Array Value) : laidMetH Tryd.prog laid2 ((World.doorLaid Tryd.prog 400 os).forCall (fun _ _ => 0) ⟨#[], args, []⟩).memory :=
  laidMetH_of_parts3 (fuel := 8) (laidMet_of_run' 8 (by kernel_rfl) (by kernel_rfl)) (by kernel_rfl) (by kernel_rfl)
theorem pr7 : Tryd.f7.params = #[22, 5] := rfl
set_option maxRecDepth 100000 in
theorem law7 (tr : List Value) (hl : tr.length = Tryd.f7.params.size) (h : ∀ (j : Nat) t u, Tryd.f7.params.toList[j]? = some t → tr[j]? = some u → ∃ n c, Wt E.P n t c ∧ u = elemV E.P t c) : ∃ h', Bm.L E 7 tr [] 0 = some (.bool true, h') := by
  rw [pr7] at hl h
  obtain ⟨a0, tr, rfl⟩ := List.exists_cons_of_length_eq_add_one hl; have hl := Nat.succ.inj hl
  obtain ⟨a1, tr, rfl⟩ := List.exists_cons_of_length_eq_add_one hl; have hl := Nat.succ.inj hl
  obtain rfl := List.eq_nil_of_length_eq_zero hl
  obtain ⟨n0, c0, w0, rfl⟩ := h 0 22 a0 rfl rfl
  obtain ⟨n1, c1, w1, rfl⟩ := h 1 5 a1 rfl rfl
  obtain ⟨A, e0, hAl, hA⟩ := alV w0
  obtain ⟨z1, e1, z1a, _z1b⟩ := u8V w1
  rw [e0, e1]
  exact (by obtain ⟨m1, rfl⟩ := Int.eq_ofNat_of_zero_le z1a; exact renames_law (fun x hx => (hA x hx).1) hAl)
set_option maxRecDepth 100000 in
theorem lifted7 (os : Os) (started : os.Started) (H : Type) (enc : TypeId × Value → H) :
    ReturnsInHanded {} Tryd.checked os 7 .any (fun w args => (Rows.coreRenamesSpec.pre enc Tryd.prog Tryd.f7 [] false w args ∧ laidMetH Tryd.prog laid2 w) ∧ sizedMet enc Tryd.prog Tryd.f7 (OpenSpec.ofChange Rows.coreRenamesSpec) false w args) (Rows.coreRenamesSpec.post enc Tryd.prog Tryd.f7 false true false false) := by
  refine returnsInHanded_of_change_and (C := Tryd.checked) (X := fun w _ => laidMetH Tryd.prog laid2 w) (fun _ _ _ hh h => h.of_heap hh) own started (by kernel_rfl) Tryd.func7
    (ChangeSpec.witness_shaped (enc := enc) (C := Tryd.checked) (os := os) (X := fun w _ => laidMetH Tryd.prog laid2 w) false (World.doorLaid Tryd.prog 400 os) #[.slice none 0 0, .int .u8 0] 8 rfl (World.shaped_of_RefB (by kernel_rfl) (by kernel_rfl)) (by kernel_rfl) (by kernel_rfl) (by kernel_rfl) (door_met os _)) ?_
  intro W base args ds gs before hval hW _ _ hL _
  refine law_contractG (E := E) okE orcE laidE mapsE closedE (fun t ht => argT (by rw [pr7] at ht; simp only [List.mem_cons, List.not_mem_nil, or_false] at ht ⊢; rcases ht with h | h <;> simp [h])) rfl (tb := 4) rfl u4 (fun ds hds => ?_) law7 (fun g v hg => glob_met hL g v hg) hval hW
  rw [pr7] at hds
  obtain ⟨d0, ds, rfl⟩ := List.exists_cons_of_length_eq_add_one hds; have hds := Nat.succ.inj hds
  obtain ⟨d1, ds, rfl⟩ := List.exists_cons_of_length_eq_add_one hds; have hds := Nat.succ.inj hds
  obtain rfl := List.eq_nil_of_length_eq_zero hds
  rfl
theorem coreRenames_row : Rows.CoreRenamesSaid :=
  OpenClaim.holds_of_wide 7 Tryd.f7 rfl rfl rfl rfl rfl rfl rfl ⟨rfl, rfl, rfl, rfl, rfl⟩ rfl rfl rfl rfl rfl (by kernel_rfl) Tryd.func7 (by kernel_rfl)
    (of_decide_eq_true (by kernel_rfl)) (by unfold Func.isWrapper; first | (rw [if_pos (by decide +kernel)]; kernel_rfl) | (rw [if_neg (by decide +kernel)]; exact ⟨rfl, rfl⟩))
    (fun os started H enc _ => lifted7 os started H enc)
theorem coreRenames_holds : Rows.CoreRenamesCardSaid :=
  Claim7.holds_tied_plain_at .later [] [.data, .data] true (true, "9e9cf80370c187103ffbf5e4cb8ff2df6c519d2ece61b31242e453ee470e8dc0") false
    coreRenames_row (fun _ h => by cases h) (by kernel_rfl) (fun _ h => by cases h) coreRenames_row_tie rfl ⟨rfl, rfl⟩ (by kernel_rfl) rfl
    (fun f fn hf hfn => by
      obtain rfl : f = 7 := Option.some.inj ((show Tryd.prog.funcNamed "greenbelt/greenbeltlaw27.CoreRenames" = some 7 by kernel_rfl).symm.trans hf) |>.symm
      obtain rfl : fn = Tryd.f7 := (Option.some.inj (Tryd.func7.symm.trans hfn)).symm
      exact ⟨by kernel_rfl, fun j t ht => by
        rw [pr7] at ht
        have hm : t ∈ [22, 5] := by simpa using Array.mem_of_getElem? ht
        have hall : ([22, 5].all fun u => !Tryd.prog.wantsStandIn u) = true := by kernel_rfl
        exact (show Tryd.prog.wantsStandIn t = false by simpa using List.all_eq_true.1 hall t hm)⟩)
    (by kernel_rfl)
end Go.Proofs.YtgefjhjmkejjbaaDoor
