/-
 Chapter 07: the statement on the reference. Conditions: none.
-/
import Derived.Test.YtnhdabelepjgbaaGreatQT23
import Derived.Test.YtnhdabelepjgbaaGreatQT33
namespace Go.Proofs.YtnhdabelepjgbaaGreat
open Go Go.RowKit Go.ChangeShapes Go.Proofs.YtnhdabelepjgbaaGreat.Bm
theorem own:ownKnob Tryz.prog.godebug=none:=by kernel_rfl
theorem argT {t:TypeId} (h:t∈[22,23]):t∈tlE∧E.P.readableRec t=true∧t<E.P.types.size:=by
 simp only [List.mem_cons,List.not_mem_nil,or_false] at h
 rcases h with rfl | rfl
 ·exact ⟨in22,by kernel_rfl,of_decide_eq_true (by kernel_rfl)⟩
 ·exact ⟨in23,by kernel_rfl,of_decide_eq_true (by kernel_rfl)⟩
theorem pr3:Tryz.f3.params=#[22,23]:=rfl
set_option maxRecDepth 100000 in
theorem law3 (tr:List Value) (hl:tr.length=Tryz.f3.params.size) (h:∀ (j:Nat) t u,Tryz.f3.params.toList[j]?=some t→tr[j]?=some u→∃ n c,Wt E.P n t c∧u=elemV E.P t c):∃ h',L E 3 tr [] 0=some (.bool true,h'):=by
 rw [pr3] at hl h
 obtain ⟨a0,tr,rfl⟩:=List.exists_cons_of_length_eq_add_one hl;have hl:=Nat.succ.inj hl
 obtain ⟨a1,tr,rfl⟩:=List.exists_cons_of_length_eq_add_one hl;have hl:=Nat.succ.inj hl
 obtain rfl:=List.eq_nil_of_length_eq_zero hl
 obtain ⟨n0,c0,w0,rfl⟩:=h 0 22 a0 rfl rfl
 obtain ⟨n1,c1,w1,rfl⟩:=h 1 23 a1 rfl rfl
 obtain ⟨p,e0⟩:=ptsV w0
 obtain ⟨l,e1,_,_⟩:=rectsV w1
 rw [e0,e1]
 exact tells_law p l
set_option maxRecDepth 100000 in
theorem lifted3 (os:Os) (started:os.Started) (H:Type) (enc:TypeId × Value→H) :
  ReturnsInHanded {} Tryz.checked os 3 .any (Rows.polygonTellsSpec.pre6 enc Tryz.prog Tryz.f3 Rows.polygonTellsRow.domain false) (Rows.polygonTellsSpec.post enc Tryz.prog Tryz.f3 false true false false):=by
 refine returnsInHanded_of_change (C:=Tryz.checked) own started (by kernel_rfl) Tryz.func3
  (ChangeSpec.witness6 (enc:=enc) (C:=Tryz.checked) false ⟨#[],#[.slice none 0 0,.slice none 0 0],[]⟩ 8 (by kernel_rfl) (by kernel_rfl) (by kernel_rfl) (by kernel_rfl)) ?_
 intro W base args ds gs before hval hW _ _
 refine law_contract (E:=E) okE (orcE) (fun _=>rfl) laidE mapsE closedE (fun t ht=>argT (by rw [pr3] at ht;simp only [List.mem_cons,List.not_mem_nil,or_false] at ht ⊢; rcases ht with h | h <;> simp [h])) rfl (tb:=4) rfl u4 (fun ds hds=>?_) law3 hval hW
 rw [pr3] at hds
 obtain ⟨d0,ds,rfl⟩:=List.exists_cons_of_length_eq_add_one hds;have hds:=Nat.succ.inj hds
 obtain ⟨d1,ds,rfl⟩:=List.exists_cons_of_length_eq_add_one hds;have hds:=Nat.succ.inj hds
 obtain rfl:=List.eq_nil_of_length_eq_zero hds
 rfl
theorem polygonTells_holds:Rows.PolygonTellsSaid :=
 OpenClaim.holds_of_wide 3 Tryz.f3 rfl rfl rfl rfl rfl rfl rfl ⟨rfl,rfl,rfl,rfl,rfl⟩ rfl rfl rfl rfl rfl (by kernel_rfl) Tryz.func3 (by kernel_rfl)
  (of_decide_eq_true (by kernel_rfl)) (by unfold Func.isWrapper;first | (rw [if_pos (by decide +kernel)];kernel_rfl) | (rw [if_neg (by decide +kernel)];exact ⟨rfl,rfl⟩))
  (fun os started H enc _=>lifted3 os started H enc)
end Go.Proofs.YtnhdabelepjgbaaGreat
