/-
 Chapter 19: the statement about strings that both readers read, as a tied card. Its row. Conditions: none.
-/
import Derived.Test.YtplebjehcgcdeaaGreatDoorQT25
import Derived.Test.YtplebjehcgcdeaaGreatDoorQT29
import Derived.Test.YtplebjehcgcdeaaGreatDoorCards
import Derived.Test.YtplebjehcgcdeaaGreatDoorTie
import Derived.Test.YtplebjehcgcdeaaGreatDoorQT30
namespace Go.Proofs.YtplebjehcgcdeaaGreatDoor
open Go Go.RowKit Go.ChangeShapes Go.Proofs.YtplebjehcgcdeaaGreatDoor.Bm
noncomputable def tlE:List TypeId:=closeT E.P 4 [9]
theorem closedE:closedT E.P tlE=true:=by kernel_rfl
theorem in9:9∈tlE:=List.contains_iff_mem.1 (by kernel_rfl)
theorem argT {t:TypeId} (h:t∈[9]):t∈tlE∧E.P.readableRec t=true∧t<E.P.types.size:=by
 simp only [List.mem_cons,List.not_mem_nil,or_false] at h
 subst h
 ·exact ⟨in9,by kernel_rfl,of_decide_eq_true (by kernel_rfl)⟩
theorem pr4:Tryz.f4.params=#[9]:=rfl
set_option maxRecDepth 100000 in
theorem law4 (tr:List Value) (hl:tr.length=Tryz.f4.params.size) (h:∀ (j:Nat) t u,Tryz.f4.params.toList[j]?=some t→tr[j]?=some u→∃ n c,Wt E.P n t c∧u=elemV E.P t c):∃ h',Bm.L E 4 tr [] 0=some (.bool true,h'):=by
 rw [pr4] at hl h
 obtain ⟨a0,tr,rfl⟩:=List.exists_cons_of_length_eq_add_one hl;have hl:=Nat.succ.inj hl
 obtain rfl:=List.eq_nil_of_length_eq_zero hl
 obtain ⟨n0,c0,w0,rfl⟩:=h 0 9 a0 rfl rfl
 obtain ⟨l,e0,hl⟩:=strV w0
 rw [e0]
 exact reads_law l hl
set_option maxRecDepth 100000 in
theorem lifted4 (os:Os) (started:os.Started) (H:Type) (enc:TypeId × Value→H) :
  ReturnsInHanded {} Tryz.checked os 4 .any (fun w args=>(Rows.drawingReadsSpec.pre enc Tryz.prog Tryz.f4 [] false w args∧laidMetH Tryz.prog laid5 w)∧sizedMet enc Tryz.prog Tryz.f4 (OpenSpec.ofChange Rows.drawingReadsSpec) false w args) (Rows.drawingReadsSpec.post enc Tryz.prog Tryz.f4 false true false false):=by
 refine returns_shaped (C:=Tryz.checked) (X:=fun w _=>laidMetH Tryz.prog laid5 w) (fun _ _ _ hh h=>h.of_heap hh) own started (by kernel_rfl) Tryz.func4
  (ChangeSpec.witness_shaped (enc:=enc) (C:=Tryz.checked) (os:=os) (X:=fun w _=>laidMetH Tryz.prog laid5 w) false (World.doorLaid Tryz.prog 400 os) #[.string ⟨⟨[]⟩⟩] 8 rfl (World.shaped_of_RefB (by kernel_rfl) (by kernel_rfl)) (by kernel_rfl) (by kernel_rfl) (by kernel_rfl) (door_met os _)) ?_
 intro W base args ds gs before hval hW hwt hL hsh
 refine law_contractG (E:=E) okE orcE laidE mapsE closedE (fun t ht=>argT (by rw [pr4] at ht;simp only [List.mem_cons,List.not_mem_nil,or_false] at ht ⊢; simp [ht])) rfl (tb:=4) rfl u4 (fun ds hds=>?_) law4 (fun g v hg=>glob_met hL g v hg) (any_met hsh) (tabs_met hL) hval hW hwt
 rw [pr4] at hds
 obtain ⟨d0,ds,rfl⟩:=List.exists_cons_of_length_eq_add_one hds;have hds:=Nat.succ.inj hds
 obtain rfl:=List.eq_nil_of_length_eq_zero hds
 rfl
theorem drawingReads_row:Rows.DrawingReadsSaid :=
 OpenClaim.holds_of_wide 4 Tryz.f4 rfl rfl rfl rfl rfl rfl rfl ⟨rfl,rfl,rfl,rfl,rfl⟩ rfl rfl rfl rfl rfl (by kernel_rfl) Tryz.func4 jf4
  (of_decide_eq_true (by kernel_rfl)) (by unfold Func.isWrapper;first | (rw [if_pos (by decide +kernel)];kernel_rfl) | (rw [if_neg (by decide +kernel)];exact ⟨rfl,rfl⟩))
  (fun os started H enc _=>lifted4 os started H enc)
end Go.Proofs.YtplebjehcgcdeaaGreatDoor
