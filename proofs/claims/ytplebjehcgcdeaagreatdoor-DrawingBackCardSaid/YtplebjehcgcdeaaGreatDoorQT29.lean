/-
 Chapter 19: the statement about encodings, as a tied card. Its row. Conditions: none.
-/
import Derived.Test.YtplebjehcgcdeaaGreatDoorQT25
import Derived.Test.YtplebjehcgcdeaaGreatDoorQT27
import Derived.Test.YtplebjehcgcdeaaGreatDoorCards
import Derived.Test.YtplebjehcgcdeaaGreatDoorTie
import Derived.Test.YtplebjehcgcdeaaGreatDoorQT28
namespace Go.Proofs.YtplebjehcgcdeaaGreatDoor
open Go Go.RowKit Go.ChangeShapes Go.Proofs.YtplebjehcgcdeaaGreatDoor.Bm
noncomputable def tlE:List TypeId:=closeT E.P 12 [37]
theorem closedE:closedT E.P tlE=true:=by kernel_rfl
theorem in37:37∈tlE:=List.contains_iff_mem.1 (by kernel_rfl)
theorem argT {t:TypeId} (h:t∈[37]):t∈tlE∧E.P.readableRec t=true∧t<E.P.types.size:=by
 simp only [List.mem_cons,List.not_mem_nil,or_false] at h
 subst h
 ·exact ⟨in37,by kernel_rfl,of_decide_eq_true (by kernel_rfl)⟩
theorem pr5:Tryz.f5.params=#[37,37]:=rfl
set_option maxRecDepth 100000 in
theorem law5 (tr:List Value) (hl:tr.length=Tryz.f5.params.size) (h:∀ (j:Nat) t u,Tryz.f5.params.toList[j]?=some t→tr[j]?=some u→∃ n c,Wt E.P n t c∧u=elemV E.P t c):∃ h',Bm.L E 5 tr [] 0=some (.bool true,h'):=by
 rw [pr5] at hl h
 obtain ⟨a0,tr,rfl⟩:=List.exists_cons_of_length_eq_add_one hl;have hl:=Nat.succ.inj hl
 obtain ⟨a1,tr,rfl⟩:=List.exists_cons_of_length_eq_add_one hl;have hl:=Nat.succ.inj hl
 obtain rfl:=List.eq_nil_of_length_eq_zero hl
 obtain ⟨n0,c0,w0,rfl⟩:=h 0 37 a0 rfl rfl
 obtain ⟨n1,c1,w1,rfl⟩:=h 1 37 a1 rfl rfl
 obtain ⟨d,e0,hd⟩:=drwV w0
 obtain ⟨o,e1,ho⟩:=drwV w1
 rw [e0,e1]
 exact back_law d o hd ho
set_option maxRecDepth 100000 in
theorem lifted5 (os:Os) (started:os.Started) (H:Type) (enc:TypeId × Value→H) :
  ReturnsInHanded {} Tryz.checked os 5 .any (fun w args=>(Rows.drawingBackSpec.pre enc Tryz.prog Tryz.f5 [] false w args∧laidMetH Tryz.prog laid5 w)∧sizedMet enc Tryz.prog Tryz.f5 (OpenSpec.ofChange Rows.drawingBackSpec) false w args) (Rows.drawingBackSpec.post enc Tryz.prog Tryz.f5 false true false false):=by
 refine returns_shaped (C:=Tryz.checked) (X:=fun w _=>laidMetH Tryz.prog laid5 w) (fun _ _ _ hh h=>h.of_heap hh) own started (by kernel_rfl) Tryz.func5
  (ChangeSpec.witness_shaped (enc:=enc) (C:=Tryz.checked) (os:=os) (X:=fun w _=>laidMetH Tryz.prog laid5 w) false (World.doorLaid Tryz.prog 400 os) #[.agg ⟨[.int .i64 0,.slice none 0 0]⟩,.agg ⟨[.int .i64 0,.slice none 0 0]⟩] 8 rfl (World.shaped_of_RefB (by kernel_rfl) (by kernel_rfl)) (by kernel_rfl) (by kernel_rfl) (by kernel_rfl) (door_met os _)) ?_
 intro W base args ds gs before hval hW hwt hL hsh
 refine law_contractG (E:=E) okE orcE laidE mapsE closedE (fun t ht=>argT (by rw [pr5] at ht;simp only [List.mem_cons,List.not_mem_nil,or_false] at ht ⊢; rcases ht with h | h <;> simp [h])) rfl (tb:=4) rfl u4 (fun ds hds=>?_) law5 (fun g v hg=>glob_met hL g v hg) (any_met hsh) (tabs_met hL) hval hW hwt
 rw [pr5] at hds
 obtain ⟨d0,ds,rfl⟩:=List.exists_cons_of_length_eq_add_one hds;have hds:=Nat.succ.inj hds
 obtain ⟨d1,ds,rfl⟩:=List.exists_cons_of_length_eq_add_one hds;have hds:=Nat.succ.inj hds
 obtain rfl:=List.eq_nil_of_length_eq_zero hds
 rfl
theorem drawingBack_row:Rows.DrawingBackSaid :=
 OpenClaim.holds_of_wide 5 Tryz.f5 rfl rfl rfl rfl rfl rfl rfl ⟨rfl,rfl,rfl,rfl,rfl⟩ rfl rfl rfl rfl rfl (by kernel_rfl) Tryz.func5 jf5
  (of_decide_eq_true (by kernel_rfl)) (by unfold Func.isWrapper;first | (rw [if_pos (by decide +kernel)];kernel_rfl) | (rw [if_neg (by decide +kernel)];exact ⟨rfl,rfl⟩))
  (fun os started H enc _=>lifted5 os started H enc)
end Go.Proofs.YtplebjehcgcdeaaGreatDoor
