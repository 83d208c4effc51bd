/-
 Chapter 27: the statement that all functions return what the reference returns, as a tied card. Conditions: none.
-/
import Derived.Test.YtgefjhjmkejjbaaDoorQB22
import Derived.Test.YtgefjhjmkejjbaaDoorQB29
import Derived.Test.YtgefjhjmkejjbaaDoorCards
import Derived.Test.YtgefjhjmkejjbaaDoorTie
namespace Go.Proofs.YtgefjhjmkejjbaaDoor
open Go Go.RowKit Go.ChangeShapes Go.Proofs.YtgefjhjmkejjbaaDoor.Bm
theorem own : ownKnob Tryd.prog.godebug = none := by kernel_rfl
theorem argT {t : TypeId} (h : t ∈ [22, 23, 24, 5]) : t ∈ tlE ∧ E.P.readableRec t = true ∧ t < E.P.types.size := by
 simp only [List.mem_cons, List.not_mem_nil, or_false] at h
 rcases h with rfl | rfl | rfl | rfl
 ·exact ⟨in22, by kernel_rfl, of_decide_eq_true (by kernel_rfl)⟩
 ·exact ⟨in23, by kernel_rfl, of_decide_eq_true (by kernel_rfl)⟩
 ·exact ⟨in24, by kernel_rfl, of_decide_eq_true (by kernel_rfl)⟩
 ·exact ⟨in5, by kernel_rfl, of_decide_eq_true (by kernel_rfl)⟩
theorem door_met (os : Os) (args : Array Value) : laidMetH Tryd.prog laid2 ((World.doorLaid Tryd.prog 400 os).forCall (fun _ _ => 0) ⟨#[], args, []⟩).memory :=
 laidMetH_of_parts3 (fuel := 8) (laidMet_of_run' 8 (by kernel_rfl) (by kernel_rfl)) (by kernel_rfl) (by kernel_rfl)
theorem pr3 : Tryd.f3.params = #[22, 23, 24] := rfl
set_option maxRecDepth 100000 in
theorem law3 (tr : List Value) (hl : tr.length = Tryd.f3.params.size) (h : ∀ (j : Nat) t u, Tryd.f3.params.toList[j]? = some t → tr[j]? = some u → ∃ n c, Wt E.P n t c ∧ u = elemV E.P t c) : ∃ h', Bm.L E 3 tr [] 0 = some (.bool true, h') := by
 rw [pr3] at hl h
 obtain ⟨a0, tr, rfl⟩ := List.exists_cons_of_length_eq_add_one hl; have hl := Nat.succ.inj hl
 obtain ⟨a1, tr, rfl⟩ := List.exists_cons_of_length_eq_add_one hl; have hl := Nat.succ.inj hl
 obtain ⟨a2, tr, rfl⟩ := List.exists_cons_of_length_eq_add_one hl; have hl := Nat.succ.inj hl
 obtain rfl := List.eq_nil_of_length_eq_zero hl
 obtain ⟨n0, c0, w0, rfl⟩ := h 0 22 a0 rfl rfl
 obtain ⟨n1, c1, w1, rfl⟩ := h 1 23 a1 rfl rfl
 obtain ⟨n2, c2, w2, rfl⟩ := h 2 24 a2 rfl rfl
 obtain ⟨A, e0, hAl, hA⟩ := alV w0
 obtain ⟨c, e1, hc⟩ := strsV w1
 obtain ⟨R, e2, hRl, hR⟩ := prfV w2
 rw [e0, e1, e2]
 exact tells_law (fun x hx => (hA x hx).1) hAl (fun x hx => (hR x hx).1) hRl hc
set_option maxRecDepth 100000 in
theorem lifted3 (os : Os) (started : os.Started) (H : Type) (enc : TypeId × Value → H) :
  ReturnsInHanded {} Tryd.checked os 3 .any (fun w args => (Rows.coreTellsSpec.pre enc Tryd.prog Tryd.f3 [] false w args ∧ laidMetH Tryd.prog laid2 w) ∧ sizedMet enc Tryd.prog Tryd.f3 (OpenSpec.ofChange Rows.coreTellsSpec) false w args) (Rows.coreTellsSpec.post enc Tryd.prog Tryd.f3 false true false false) := by
 refine returnsInHanded_of_change_and (C := Tryd.checked) (X := fun w _ => laidMetH Tryd.prog laid2 w) (fun _ _ _ hh h => h.of_heap hh) own started (by kernel_rfl) Tryd.func3
  (ChangeSpec.witness_shaped (enc := enc) (C := Tryd.checked) (os := os) (X := fun w _ => laidMetH Tryd.prog laid2 w) false (World.doorLaid Tryd.prog 400 os) #[.slice none 0 0, .slice none 0 0, .slice none 0 0] 8 rfl (World.shaped_of_RefB (by kernel_rfl) (by kernel_rfl)) (by kernel_rfl) (by kernel_rfl) (by kernel_rfl) (door_met os _)) ?_
 intro W base args ds gs before hval hW _ _ hL _
 refine law_contractG (E := E) okE orcE laidE mapsE closedE (fun t ht => argT (by rw [pr3] at ht; simp only [List.mem_cons, List.not_mem_nil, or_false] at ht ⊢; rcases ht with h | h | h <;> simp [h])) rfl (tb := 4) rfl u4 (fun ds hds => ?_) law3 (fun g v hg => glob_met hL g v hg) hval hW
 rw [pr3] at hds
 obtain ⟨d0, ds, rfl⟩ := List.exists_cons_of_length_eq_add_one hds; have hds := Nat.succ.inj hds
 obtain ⟨d1, ds, rfl⟩ := List.exists_cons_of_length_eq_add_one hds; have hds := Nat.succ.inj hds
 obtain ⟨d2, ds, rfl⟩ := List.exists_cons_of_length_eq_add_one hds; have hds := Nat.succ.inj hds
 obtain rfl := List.eq_nil_of_length_eq_zero hds
 rfl
theorem coreTells_row : Rows.CoreTellsSaid :=
 OpenClaim.holds_of_wide 3 Tryd.f3 rfl rfl rfl rfl rfl rfl rfl ⟨rfl, rfl, rfl, rfl, rfl⟩ rfl rfl rfl rfl rfl (by kernel_rfl) Tryd.func3 (by kernel_rfl)
  (of_decide_eq_true (by kernel_rfl)) (by unfold Func.isWrapper; first | (rw [if_pos (by decide +kernel)]; kernel_rfl) | (rw [if_neg (by decide +kernel)]; exact ⟨rfl, rfl⟩))
  (fun os started H enc _ => lifted3 os started H enc)
theorem coreTells_holds : Rows.CoreTellsCardSaid :=
 Claim7.holds_tied_plain_at .later [] [.data, .data] true (true, "9e9cf80370c187103ffbf5e4cb8ff2df6c519d2ece61b31242e453ee470e8dc0") false
  coreTells_row (fun _ h => by cases h) (by kernel_rfl) (fun _ h => by cases h) coreTells_row_tie rfl ⟨rfl, rfl⟩ (by kernel_rfl) rfl
  (fun f fn hf hfn => by
   obtain rfl : f = 3 := Option.some.inj ((show Tryd.prog.funcNamed "greenbelt/greenbeltlaw27.CoreTells" = some 3 by kernel_rfl).symm.trans hf) |>.symm
   obtain rfl : fn = Tryd.f3 := (Option.some.inj (Tryd.func3.symm.trans hfn)).symm
   exact ⟨by kernel_rfl, fun j t ht => by
    rw [pr3] at ht
    have hm : t ∈ [22, 23, 24] := by simpa using Array.mem_of_getElem? ht
    have hall : ([22, 23, 24].all fun u => !Tryd.prog.wantsStandIn u) = true := by kernel_rfl
    exact (show Tryd.prog.wantsStandIn t = false by simpa using List.all_eq_true.1 hall t hm)⟩)
  (by kernel_rfl)
end Go.Proofs.YtgefjhjmkejjbaaDoor
