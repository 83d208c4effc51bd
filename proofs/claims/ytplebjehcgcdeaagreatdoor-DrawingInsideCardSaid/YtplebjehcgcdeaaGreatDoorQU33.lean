/-
 Chapter 19: the statement about drawings inside of a lot, as a tied card. Its row. Conditions: none.
-/
import Derived.Test.YtplebjehcgcdeaaGreatDoorQU24
import Derived.Test.YtplebjehcgcdeaaGreatDoorQU31
import Derived.Test.YtplebjehcgcdeaaGreatDoorCards
import Derived.Test.YtplebjehcgcdeaaGreatDoorTie
import Derived.Test.YtplebjehcgcdeaaGreatDoorQU32
namespace Go.Proofs.YtplebjehcgcdeaaGreatDoor
open Go Go.RowKit Go.ChangeShapes Go.Proofs.YtplebjehcgcdeaaGreatDoor.Bm
noncomputable def tlE:List TypeId:=closeT E.P 16 [30,34,37,56]
theorem closedE:closedT E.P tlE=true:=by kernel_rfl
theorem in30:30∈tlE:=List.contains_iff_mem.1 (by kernel_rfl)
theorem in34:34∈tlE:=List.contains_iff_mem.1 (by kernel_rfl)
theorem in37:37∈tlE:=List.contains_iff_mem.1 (by kernel_rfl)
theorem in56:56∈tlE:=List.contains_iff_mem.1 (by kernel_rfl)
theorem argT {t:TypeId} (h:t∈[30,34,37,56]):t∈tlE∧E.P.readableRec t=true∧t<E.P.types.size:=by
 simp only [List.mem_cons,List.not_mem_nil,or_false] at h
 rcases h with rfl | rfl | rfl | rfl
 ·exact ⟨in30,by kernel_rfl,of_decide_eq_true (by kernel_rfl)⟩
 ·exact ⟨in34,by kernel_rfl,of_decide_eq_true (by kernel_rfl)⟩
 ·exact ⟨in37,by kernel_rfl,of_decide_eq_true (by kernel_rfl)⟩
 ·exact ⟨in56,by kernel_rfl,of_decide_eq_true (by kernel_rfl)⟩
theorem pr8:Tryz.f8.params=#[30,34,37,56]:=rfl
set_option maxRecDepth 100000 in
theorem law8 (tr:List Value) (hl:tr.length=Tryz.f8.params.size) (h:∀ (j:Nat) t u,Tryz.f8.params.toList[j]?=some t→tr[j]?=some u→∃ n c,Wt E.P n t c∧u=elemV E.P t c):∃ h',Bm.L E 8 tr [] 0=some (.bool true,h'):=by
 rw [pr8] at hl h
 obtain ⟨a0,tr,rfl⟩:=List.exists_cons_of_length_eq_add_one hl;have hl:=Nat.succ.inj hl
 obtain ⟨a1,tr,rfl⟩:=List.exists_cons_of_length_eq_add_one hl;have hl:=Nat.succ.inj hl
 obtain ⟨a2,tr,rfl⟩:=List.exists_cons_of_length_eq_add_one hl;have hl:=Nat.succ.inj hl
 obtain ⟨a3,tr,rfl⟩:=List.exists_cons_of_length_eq_add_one hl;have hl:=Nat.succ.inj hl
 obtain rfl:=List.eq_nil_of_length_eq_zero hl
 obtain ⟨n0,c0,w0,rfl⟩:=h 0 30 a0 rfl rfl
 obtain ⟨n1,c1,w1,rfl⟩:=h 1 34 a1 rfl rfl
 obtain ⟨n2,c2,w2,rfl⟩:=h 2 37 a2 rfl rfl
 obtain ⟨n3,c3,w3,rfl⟩:=h 3 56 a3 rfl rfl
 obtain ⟨p,e0⟩:=planV9 w0
 obtain ⟨t,e1⟩:=lotV9 w1
 obtain ⟨d,e2,hd⟩:=drwV w2
 obtain ⟨m,e3⟩:=rectV9 w3
 rw [e0,e1,e2,e3]
 exact inside_law p t.1 t.2.1 t.2.2.1 t.2.2.2 d hd m
set_option maxRecDepth 100000 in
theorem lifted8 (os:Os) (started:os.Started) (H:Type) (enc:TypeId × Value→H) :
  ReturnsInHanded {} Tryz.checked os 8 .any (fun w args=>(Rows.drawingInsideSpec.pre enc Tryz.prog Tryz.f8 [] false w args∧laidMetH Tryz.prog laid5 w)∧sizedMet enc Tryz.prog Tryz.f8 (OpenSpec.ofChange Rows.drawingInsideSpec) false w args) (Rows.drawingInsideSpec.post enc Tryz.prog Tryz.f8 false true false false):=by
 refine returns_shaped (C:=Tryz.checked) (X:=fun w _=>laidMetH Tryz.prog laid5 w) (fun _ _ _ hh h=>h.of_heap hh) own started (by kernel_rfl) Tryz.func8
  (ChangeSpec.witness_shaped (enc:=enc) (C:=Tryz.checked) (os:=os) (X:=fun w _=>laidMetH Tryz.prog laid5 w) false (World.doorLaid Tryz.prog 400 os) #[.agg ⟨[.slice none 0 0,.slice none 0 0,.slice none 0 0,.slice none 0 0,.slice none 0 0,.slice none 0 0,.slice none 0 0,.int .i64 0]⟩,.agg ⟨[.int .i64 0,.int .i64 0,.slice none 0 0,.slice none 0 0]⟩,.agg ⟨[.int .i64 0,.slice none 0 0]⟩,.agg ⟨[.int .i64 0,.int .i64 0,.int .i64 0,.int .i64 0]⟩] 8 rfl (World.shaped_of_RefB (by kernel_rfl) (by kernel_rfl)) (by kernel_rfl) (by kernel_rfl) (by kernel_rfl) (door_met os _)) ?_
 intro W base args ds gs before hval hW hwt hL hsh
 refine law_contractG (E:=E) okE orcE laidE mapsE closedE (fun t ht=>argT (by rw [pr8] at ht;simp only [List.mem_cons,List.not_mem_nil,or_false] at ht ⊢; rcases ht with h | h | h | h <;> simp [h])) rfl (tb:=4) rfl u4 (fun ds hds=>?_) law8 (fun g v hg=>glob_met hL g v hg) (any_met hsh) (tabs_met hL) hval hW hwt
 rw [pr8] at hds
 obtain ⟨d0,ds,rfl⟩:=List.exists_cons_of_length_eq_add_one hds;have hds:=Nat.succ.inj hds
 obtain ⟨d1,ds,rfl⟩:=List.exists_cons_of_length_eq_add_one hds;have hds:=Nat.succ.inj hds
 obtain ⟨d2,ds,rfl⟩:=List.exists_cons_of_length_eq_add_one hds;have hds:=Nat.succ.inj hds
 obtain ⟨d3,ds,rfl⟩:=List.exists_cons_of_length_eq_add_one hds;have hds:=Nat.succ.inj hds
 obtain rfl:=List.eq_nil_of_length_eq_zero hds
 rfl
theorem drawingInside_row:Rows.DrawingInsideSaid :=
 OpenClaim.holds_of_wide 8 Tryz.f8 rfl rfl rfl rfl rfl rfl rfl ⟨rfl,rfl,rfl,rfl,rfl⟩ rfl rfl rfl rfl rfl (by kernel_rfl) Tryz.func8 jf8
  (of_decide_eq_true (by kernel_rfl)) (by unfold Func.isWrapper;first | (rw [if_pos (by decide +kernel)];kernel_rfl) | (rw [if_neg (by decide +kernel)];exact ⟨rfl,rfl⟩))
  (fun os started H enc _=>lifted8 os started H enc)
end Go.Proofs.YtplebjehcgcdeaaGreatDoor
