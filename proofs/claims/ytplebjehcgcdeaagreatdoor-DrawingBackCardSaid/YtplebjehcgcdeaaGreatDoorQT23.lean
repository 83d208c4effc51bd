/-
 strings.Builder's copyCheck and String: their contracts, and that the machine knows them rightly. Conditions: the layings.
-/
import Derived.Test.YtplebjehcgcdeaaGreatDoorQT22
import Derived.Test.YtplebjehcgcdeaaGreatDoorQT17
import Derived.Test.YtplebjehcgcdeaaGreatDoorQT16
import Derived.Shelf.Strings.BuilderK
namespace Go.Proofs.YtplebjehcgcdeaaGreatDoor.Bm
open Go Go.RowKit
open Dw (Vol Ent Phs Drw encI encN encT encL encV encE encP formB rightV)
def resB (d:Drw):Value:=if formB d then .tuple ⟨[.string ⟨⟨Dw.enc d⟩⟩,.int .i64 0]⟩ else .tuple ⟨[.string ⟨⟨[]⟩⟩,.int .i64 1]⟩
set_option maxHeartbeats 2000000 in
theorem bytes_pure (k:Option Bool) (d:Drw) (hk:Rec.Ok k d.phs) (hp:d.phs.length≤1000000) (hv:d.all.length≤1000000) (hg:∀ p∈d.phs,p.gives.length≤1000000∧∀ e∈p.gives,e.1.length≤1000000) :
  pureCall E.P (L E) 13 [drV k d]=some (resB d):=by
 have fp:=form_pure k d hk hp hv hg
 have hrf:∀ h,reify E.P 8 h (drV k d)=some (drV k d):=fun h=>by
  have hs:([.int .i64 d.lot,phR.o k d.phs]:List Value).all (settled 8)=true:=by
   simp only [List.all_cons,List.all_nil,Bool.and_true,Bool.and_eq_true]
   exact ⟨rfl,Rec.o_set⟩
  unfold drV
  rw [reify_agg,reifyC_set hs];rfl
 have hfit:formB d=true→_:=fun q=>Dw.form_fit q
 have hph:formB d=true→_:=fun q=>form_ph q
 have hel:formB d=true→_:=fun q=>enc_len q
 unfold resB
 rw [pureCall_fn F13 rfl]
 cases hF:formB d with
 | false =>
  rw [hF] at fp
  have la:∀ X,loadT ⟨some true,some 2⟩ (AObj.cells tD [.int .i64 d.lot,phR.o k d.phs] 0 :: X) (.pointer (some ⟨0,0,none⟩))=some (.agg ⟨[.int .i64 d.lot,phR.o k d.phs]⟩):=fun X=>obj_all (n:=2) (t:=tD) (c:=[.int .i64 d.lot,phR.o k d.phs]) rfl rfl
  unfold drV at *
  simp -implicitDefEqProofs [r13,p13,la,ret0 m21,hrf,fp,-reify_agg]
 | true =>
  have hfit:=hfit hF
  have hph:=hph hF
  have hel:=hel hF
  rw [hF] at fp
  clear hF hv hg
  rw [if_pos rfl]
  unfold Dw.enc at hel ⊢
  obtain ⟨lot,phs⟩:=d
  have hlot:=hfit.lot
  have hp8:=hfit.phs
  clear hfit
  simp only at *
  have np:=num_pure (n:=(phs.length:Int)) ⟨by omega,by omega⟩
  have nl:=num_pure hlot.2
  have ll:∀ h,lenT .sl h (phR.o k phs)=some (.int .i64 phs.length):=fun h=>Rec.o_len hk
  have ix:=fun (i:Nat) (hi:i<phs.length)=>Rec.o_index (R:=phR) (s:=2) (t:=tP) (kk:=.i64) rfl hk hi
  have bP:∀ d n,below (d+1) n (phR.o k phs)=true:=fun d n=>Rec.o_bel
  unfold drV at *
  simp only at *
  generalize phR.o k phs=VP at *
  have bD:∀ n,below 8 n (.agg ⟨[.int .i64 lot,VP]⟩)=true:=fun n=>by show ([_,_]:List Value).all (below 7 n)=true;simp only [List.all_cons,List.all_nil,bP,bel_int,Bool.and_self]
  obtain ⟨A0,hA⟩:∃ A,AObj.cells tD [.int .i64 lot,VP] 0=A:=⟨_,rfl⟩
  have bl:∀ n,belowO n A0=true:=fun n=>by rw [← hA];show ([_,_]:List Value).all (below 8 n)=true;simp only [List.all_cons,List.all_nil,bP,bel_int,Bool.and_self]
  have ld0:∀ X,loadT ⟨some false,some 1⟩ (A0 :: X) (.pointer (some ⟨0,0,none⟩))=some (.int .i64 lot):=fun X=>by rw [← hA];exact obj_load (j:=0) (t:=tD) (c:=[.int .i64 lot,VP]) rfl rfl
  have ld:∀ X,loadT ⟨some false,some 1⟩ (A0 :: X) (.pointer (some ⟨0,1,none⟩))=some VP:=fun X=>by rw [← hA];exact obj_load (j:=1) (t:=tD) (c:=[.int .i64 lot,VP]) rfl rfl
  have la:∀ X,loadT ⟨some true,some 2⟩ (A0 :: X) (.pointer (some ⟨0,0,none⟩))=some (.agg ⟨[.int .i64 lot,VP]⟩):=fun X=>by rw [← hA];exact obj_all (n:=2) (t:=tD) (c:=[.int .i64 lot,VP]) rfl rfl
  have cN:∀ σ,newcK E.P 0 [A0,.cells tB [.pointer none,.slice none 0 0] 0] σ 1 tU8 (.pointer (some ⟨1,0,none⟩))=some (σ,[A0,bdC 1 2 false [],rw8 []]):=fun σ=>bd_new (r:=1) σ [A0] rfl
  have hN1:=encN_len hlot.2
  have hN2:=encN_len (n:=(phs.length:Int)) ⟨by omega,by omega⟩
  simp only [List.length_append] at hel
  have a1:=sv_add (P:=E.P) (t:=9) (a:=encN lot) (b:=encN phs.length) (by omega)
  have w1:retCall E (L E) 0 false 48 [rdP 1,.string ⟨⟨encN lot++encN phs.length⟩⟩] [A0,bdC 1 2 false [],rw8 []]=some (.tuple #[.int .i64 (encN lot++encN phs.length).length,.nilIface],[A0,bw (encN lot++encN phs.length),rw8 (encN lot++encN phs.length)]) :=
   write_call (b:=1) (r:=2) (u:=false) (l:=[]) rfl rfl (by decide) (Nat.zero_le _) (Nat.zero_le _) (by simp only [List.length_append,List.length_nil];omega)
  generalize hC0:encN lot++encN phs.length=c0 at *
  have hc0:c0.length≤42:=by rw [← hC0,List.length_append];omega
  have hc1:c0≠[]:=by
   rw [← hC0,Dw.encN_pos hlot.1]
   unfold encI
   simp
  have hinv0:c0.length+(phs.flatMap encP).length≤90000:=by rw [← hC0,List.length_append];omega
  simp -implicitDefEqProofs [r13,p13,la,ld0,ld,hA,ret0 m21,hrf,fp,prep_newc,cN,atom_ptr0,ret0 m49,nl,np,ll,a1,w1,-List.append_assoc,-reify_agg]
  rw [LL_for (γ:=List UInt8) phs c0 (fun i _=>[(28,.int .i64 (i:Int))]) (fun _ c=>[A0,bw c,rw8 c]) (fun _ rest c=>(.exit 0,[(28,undef)],[A0,bw (c++rest.flatMap encP),rw8 (c++rest.flatMap encP)])) (fun i c=>c.length+((phs.drop i).flatMap encP).length≤90000) (by omega) (by rw [List.drop_zero];exact hinv0)]
  ·have sc:=string_call (h:=[A0,bw (c0++phs.flatMap encP),rw8 (c0++phs.flatMap encP)]) (b:=1) (r:=2) (lo:=0) (u:=true) rfl rfl (Nat.zero_le _) (by simp [hc1]) (by rw [List.length_append];omega)
   generalize c0++phs.flatMap encP=S at *
   simp -implicitDefEqProofs [k13_6,sc]
  ·simp -implicitDefEqProofs [k13_6]
  ·rfl
  ·intro nx i c hi _
   simp -implicitDefEqProofs [r13_6,k13_6,hi,trim_le]
  ·intro nx i q rest c hi hv2 hd hw hinv ih
   rw [hd,List.flatMap_cons,List.length_append] at hinv
   have hd2:phs.drop (i+1)=rest:=by
    have:=congrArg List.tail hd
    simpa [List.tail_drop] using this
   have xi:=ix i hi
   rw [hv2,ph_val] at xi
   have hq:=hph q (by rw [← hv2];exact List.getElem_mem hi)
   have ih:=ih (c++encP q) (by rw [hd2,List.length_append];omega)
   obtain ⟨qv,qg⟩:=q
   have h1:=hq.nv
   have h2:=hq.vs
   have h3:=hq.ng
   have h4:=hq.gs
   clear hq hph
   simp only at xi h1 h2 h3 h4
   have n1:=num_pure (n:=(qv.length:Int)) ⟨by omega,by omega⟩
   have n2:=num_pure (n:=(qg.length:Int)) ⟨by omega,by omega⟩
   have lv:∀ h,lenT .sl h (lst false (volR.vals qv))=some (.int .i64 qv.length):=fun h=>Rec.tree_len
   have lg:∀ h,lenT .sl h (lst false (entR.vals qg))=some (.int .i64 qg.length):=fun h=>Rec.tree_len
   have iv:=fun (j:Nat) (hj:j<qv.length)=>Rec.index_tree (R:=volR) (h0:=9) (x:=false) (t:=tV) (k:=.i64) rfl hj
   have ig:=fun (j:Nat) (hj:j<qg.length)=>Rec.index_tree (R:=entR) (h0:=2) (x:=false) (t:=tE) (k:=.i64) rfl hj
   have ftp:fitsTT ⟨some true,some 2⟩ (.agg ⟨[lst false (volR.vals qv),lst false (entR.vals qg)]⟩)=true:=rfl
   have bQ:∀ d n,below (d+1) n (lst false (entR.vals qg))=true:=fun d n=>rfl
   have bW:∀ d n,below (d+1) n (lst false (volR.vals qv))=true:=fun d n=>rfl
   have eP:encP ⟨qv,qg⟩=encN qv.length++qv.flatMap encV++(encN qg.length++qg.flatMap encE):=rfl
   rw [List.flatMap_cons,← List.append_assoc]
   rw [eP] at hinv ih ⊢
   simp only [List.length_append] at hinv
   have ec:c++(encN qv.length++qv.flatMap encV++(encN qg.length++qg.flatMap encE))=c++encN qv.length++qv.flatMap encV++encN qg.length++qg.flatMap encE:=by simp
   rw [ec] at ih ⊢
   clear ec eP
   generalize rest.flatMap encP=RR at *
   generalize lst false (volR.vals qv)=VW at *
   generalize lst false (entR.vals qg)=VG at *
   have stp:∀ A B C,storeT (some 2) [A,B,C,.cells tP [.slice none 0 0,.slice none 0 0] 0] 0 (.agg ⟨[VW,VG]⟩) (.pointer (some ⟨3,0,none⟩))=some [A,B,C,.cells tP [VW,VG] 0]:=fun A B C=>snoc_put (g:=[A,B,C]) rfl rfl (by decide) (Nat.zero_le _)
   have lp0:∀ A B C X,loadT ⟨some false,some 1⟩ (A :: B :: C :: .cells tP [VW,VG] 0 :: X) (.pointer (some ⟨3,0,none⟩))=some VW:=fun A B C X=>obj_load (j:=0) (t:=tP) (c:=[VW,VG]) rfl rfl
   have lp1:∀ A B C X,loadT ⟨some false,some 1⟩ (A :: B :: C :: .cells tP [VW,VG] 0 :: X) (.pointer (some ⟨3,1,none⟩))=some VG:=fun A B C X=>obj_load (j:=1) (t:=tP) (c:=[VW,VG]) rfl rfl
   have W1:=BW (A:=A0) (X:=[.cells tP [VW,VG] 0]) (c:=c) (s:=encN qv.length) (by omega)
   simp -implicitDefEqProofs [r13_6,k13_6,hi,xi,ftp,stp,lp0,lv,ret0 m49,n1,W1,-List.append_assoc]
   rw [LL_for (γ:=List UInt8) qv (c++encN qv.length) (fun j _=>[(40,.int .i64 (j:Int))]) (fun _ c=>[A0,bw c,rw8 c,.cells tP [VW,VG] 0]) (fun _ rest c=>(.exit 2,[(40,undef)],[A0,bw (c++rest.flatMap encV),rw8 (c++rest.flatMap encV),.cells tP [VW,VG] 0])) (fun j c=>c.length+((qv.drop j).flatMap encV).length≤90000) (by omega) (by rw [List.drop_zero,List.length_append];omega)]
   ·have W3:=BW (A:=A0) (X:=[.cells tP [VW,VG] 0]) (c:=c++encN qv.length++qv.flatMap encV) (s:=encN qg.length) (by simp only [List.length_append];omega)
    simp -implicitDefEqProofs [k13_10,lp1,lg,ret0 m49,n2,W3,-List.append_assoc]
    rw [LL_for (γ:=List UInt8) qg (c++encN qv.length++qv.flatMap encV++encN qg.length) (fun j _=>[(80,.int .i64 (j:Int))]) (fun _ c=>[A0,bw c,rw8 c,.cells tP [VW,VG] 0]) (fun _ rest c=>(.exit 4,[(80,undef)],[A0,bw (c++rest.flatMap encE),rw8 (c++rest.flatMap encE),.cells tP [VW,VG] 0])) (fun j c=>c.length+((qg.drop j).flatMap encE).length≤90000) (by omega) (by rw [List.drop_zero];simp only [List.length_append];omega)]
    ·have bT:∀ n (z:Int),below 8 n (.tuple #[.int .i64 z,.nilIface])=true:=fun _ _=>rfl
     have bw3:=fun (c:List UInt8)=>bw_bel (n:=3) c (by omega)
     generalize c++encN qv.length++qv.flatMap encV++encN qg.length++qg.flatMap encE=c4 at *
     simp -implicitDefEqProofs [k13_6,-List.append_assoc] at ih
     simp -implicitDefEqProofs [k13_19,hw,trim_cut,bl,bD,bP,bT,bw3,Enc.row_bel,-List.append_assoc,-List.all_eq_true]
     exact ih
    ·simp -implicitDefEqProofs [k13_19]
    ·rfl
    ·intro nx j c hj _
     simp -implicitDefEqProofs [r13_19,k13_19,hj,trim_le]
    ·intro nx j e rst c hj hvv hdd hww hin ihe
     rw [hdd,List.flatMap_cons,List.length_append] at hin
     have hdd2:qg.drop (j+1)=rst:=by
      have:=congrArg List.tail hdd
      simpa [List.tail_drop] using this
     have xg:=ig j hj
     rw [hvv] at xg
     have ihe:=ihe (c++encE e) (by rw [hdd2,List.length_append];omega)
     have he4:=h4 e (by rw [← hvv];exact List.getElem_mem hj)
     obtain ⟨nm,z⟩:=e
     change _=some (cptr (.agg ⟨[.string ⟨⟨nm⟩⟩,.int .i64 z]⟩)) at xg
     simp only at he4
     have tp:=text_pure (t:=nm) (by omega)
     have nz:=num_pure he4.2.2
     have eE:encE (nm,z)=encT nm++encN z:=rfl
     rw [eE] at hin ihe
     rw [List.flatMap_cons,← List.append_assoc,eE]
     rw [List.length_append] at hin
     have ad:=sv_add (P:=E.P) (t:=9) (a:=encT nm) (b:=encN z) (by omega)
     have W4:=fun X=>BW (A:=A0) (X:=X) (c:=c) (s:=encT nm++encN z) (by rw [List.length_append];omega)
     generalize encT nm=ET at *
     generalize encN z=EZ at *
     have bT:∀ n (z:Int),below 8 n (.tuple #[.int .i64 z,.nilIface])=true:=fun _ _=>rfl
     have bw4:=fun (c:List UInt8)=>bw_bel (n:=4) c (by omega)
     simp -implicitDefEqProofs [k13_19,-List.append_assoc] at ihe
     simp -implicitDefEqProofs [r13_19,k13_19,hj,xg,ret0 m51,tp,ret0 m49,nz,ad,W4,hww,trim_cut,bl,bD,bP,bQ,bW,bT,bw4,Enc.row_bel,-List.append_assoc,-List.all_eq_true]
     exact ihe
   ·simp -implicitDefEqProofs [k13_10]
   ·rfl
   ·intro nx j c hj _
    simp -implicitDefEqProofs [r13_10,k13_10,hj,trim_le]
   ·intro nx j v rst c hj hvv hdd hww hin ihv
    rw [hdd,List.flatMap_cons,List.length_append] at hin
    have hdd2:qv.drop (j+1)=rst:=by
     have:=congrArg List.tail hdd
     simpa [List.tail_drop] using this
    have xv:=iv j hj
    rw [hvv] at xv
    have ihv:=ihv (c++encV v) (by rw [hdd2,List.length_append];omega)
    have np9:=nums_pure (x:=true) (l:=v.nums) (h2 v (by rw [← hvv];exact List.getElem_mem hj)) (by show 9≤10000;omega)
    have W2:=fun X=>BW (A:=A0) (X:=X) (c:=c) (s:=encV v) (by omega)
    change pureCall _ _ _ _=some (.string ⟨⟨encV v⟩⟩) at np9
    rw [List.flatMap_cons,← List.append_assoc]
    generalize encV v=EV at *
    obtain ⟨a0,a1',a2,a3,a4,a5,a6,a7,xt⟩:=v
    change _=some (cptr (.agg ⟨[.int .i64 a0,.int .i64 a1',.int .i64 a2,.int .i64 a3,.int .i64 a4,.int .i64 a5,.int .i64 a6,.int .i64 a7,.bool xt]⟩)) at xv
    simp -implicitDefEqProofs [k13_10,-List.append_assoc] at ihv
    have bT:∀ n (z:Int),below 8 n (.tuple #[.int .i64 z,.nilIface])=true:=fun _ _=>rfl
    have bw4:=fun (c:List UInt8)=>bw_bel (n:=4) c (by omega)
    cases xt with
    | false =>
     have l9:=fun h=>lit9 h a0 a1' a2 a3 a4 a5 a6 a7 0
     change pureCall _ _ _ [lst true (intE.vals [a0,a1',a2,a3,a4,a5,a6,a7,0])]=_ at np9
     have r9:∀ h,reify E.P 8 h (lst true (intE.vals [a0,a1',a2,a3,a4,a5,a6,a7,0]))=some (lst true (intE.vals [a0,a1',a2,a3,a4,a5,a6,a7,0])):=fun h=>rfl
     generalize lst true (intE.vals [a0,a1',a2,a3,a4,a5,a6,a7,0])=V9 at *
     simp -implicitDefEqProofs [r13_10,k13_10,hj,xv,l9,r9,ret0 m50,np9,W2,hww,trim_cut,bl,bD,bP,bQ,bW,bT,bw4,Enc.row_bel,-List.append_assoc,-List.all_eq_true]
     exact ihv
    | true =>
     have l9:=fun h=>lit9 h a0 a1' a2 a3 a4 a5 a6 a7 1
     change pureCall _ _ _ [lst true (intE.vals [a0,a1',a2,a3,a4,a5,a6,a7,1])]=_ at np9
     have r9:∀ h,reify E.P 8 h (lst true (intE.vals [a0,a1',a2,a3,a4,a5,a6,a7,1]))=some (lst true (intE.vals [a0,a1',a2,a3,a4,a5,a6,a7,1])):=fun h=>rfl
     generalize lst true (intE.vals [a0,a1',a2,a3,a4,a5,a6,a7,1])=V9 at *
     simp -implicitDefEqProofs [r13_10,k13_10,hj,xv,l9,r9,ret0 m50,np9,W2,hww,trim_cut,bl,bD,bP,bQ,bW,bT,bw4,Enc.row_bel,-List.append_assoc,-List.all_eq_true]
     exact ihv
end Go.Proofs.YtplebjehcgcdeaaGreatDoor.Bm
namespace Go.Proofs.YtplebjehcgcdeaaGreatDoor.Bm
open Go Go.RowKit
open Dw (Vol Ent Phs Drw)
theorem ao_cons (b:Bool) (r:List (Option Bool)) (c:Bool) (h:allOf r=some c):allOf (some b :: r)=some (b && c):=by cases b <;> simp [allOf,h]
theorem ao_nil:allOf []=some true:=rfl
theorem neqV0 (a0 a1 a2 a3 a4 a5 a6 a7 b0 b1 b2 b3 b4 b5 b6 b7:Int) (x y:Bool):aBin E.P .neq tV (.agg ⟨[.int .i64 a0,.int .i64 a1,.int .i64 a2,.int .i64 a3,.int .i64 a4,.int .i64 a5,.int .i64 a6,.int .i64 a7,.bool x]⟩) (.agg ⟨[.int .i64 b0,.int .i64 b1,.int .i64 b2,.int .i64 b3,.int .i64 b4,.int .i64 b5,.int .i64 b6,.int .i64 b7,.bool y]⟩) =
  (allOf [allOf [allOf [some (a0 == b0),some (a1 == b1),some (a2 == b2),some (a3 == b3)],some (a4 == b4),some (a5 == b5)],some (a6 == b6),some (a7 == b7),some (x == y)]).map fun b=>.bool (!b):=by kernel_rfl
theorem neqV (a b:Vol):aBin E.P .neq tV (volR.val a) (volR.val b)=some (.bool (!decide (a=b))):=by
 obtain ⟨a0,a1,a2,a3,a4,a5,a6,a7,x⟩:=a
 obtain ⟨b0,b1,b2,b3,b4,b5,b6,b7,y⟩:=b
 refine (neqV0 ..).trans ?_
 rw [ao_cons _ _ _ (ao_cons _ _ _ (ao_cons _ _ _ (ao_cons _ _ _ ao_nil))),ao_cons _ _ _ (ao_cons _ _ _ (ao_cons _ _ _ ao_nil)),ao_cons _ _ _ (ao_cons _ _ _ (ao_cons _ _ _ (ao_cons _ _ _ ao_nil)))]
 simp only [Option.map_some,Bool.and_true]
 congr 3
 rw [Bool.eq_iff_iff]
 simp only [Bool.and_eq_true,beq_iff_eq,decide_eq_true_eq,Vol.mk.injEq,and_assoc]
theorem neqE0 (a b:List UInt8) (m n:Int):aBin E.P .neq tE (.agg ⟨[.string ⟨⟨a⟩⟩,.int .i64 m]⟩) (.agg ⟨[.string ⟨⟨b⟩⟩,.int .i64 n]⟩)=(allOf [some ((⟨⟨a⟩⟩:ByteArray).toList == (⟨⟨b⟩⟩:ByteArray).toList),some (m == n)]).map fun b=>.bool (!b):=by kernel_rfl
theorem neqE (a b:Ent):aBin E.P .neq tE (entR.val a) (entR.val b)=some (.bool (!decide (a=b))):=by
 obtain ⟨a,m⟩:=a
 obtain ⟨b,n⟩:=b
 refine (neqE0 ..).trans ?_
 rw [ao_cons _ _ _ (ao_cons _ _ _ ao_nil),toList_eq]
 simp only [Option.map_some,Bool.and_true]
 congr 3
 rw [Bool.eq_iff_iff]
 simp only [Bool.and_eq_true,beq_iff_eq,decide_eq_true_eq,Prod.mk.injEq,str_inj]
theorem zip_all {α:Type} [DecidableEq α]:∀ {a b:List α},a.length=b.length→(a.zip b).all (fun p=>decide (p.1=p.2))=decide (a=b)
 | [],[],_=>rfl
 | [],_ :: _,h=>by simp at h
 | _ :: _,[],h=>by simp at h
 | x :: a,y :: b,h=>by
  rw [List.zip_cons_cons,List.all_cons,zip_all (by simpa using h),Bool.eq_iff_iff]
  simp
theorem eqv_pure {x y:Bool} (a b:List Vol) (ha:a.length≤1000000) (_hb:b.length≤1000000):pureCall E.P (L E) 82 [lst x (volR.vals a),lst y (volR.vals b)]=some (.bool (decide (a=b))):=by
 have la:∀ h,lenT .sl h (lst x (volR.vals a))=some (.int .i64 a.length):=fun h=>Rec.tree_len
 have lb:∀ h,lenT .sl h (lst y (volR.vals b))=some (.int .i64 b.length):=fun h=>Rec.tree_len
 have ia:=fun (i:Nat) (hi:i<a.length)=>Rec.index_tree (R:=volR) (h0:=9) (x:=x) (t:=tV) (k:=.i64) rfl hi
 have ib:=fun (i:Nat) (hi:i<b.length)=>Rec.index_tree (R:=volR) (h0:=9) (x:=y) (t:=tV) (k:=.i64) rfl hi
 have fit:∀ v:Vol,fitsTT ⟨some true,some 9⟩ (volR.val v)=true:=fun v=>rfl
 rw [pureCall_fn F82 rfl]
 generalize lst x (volR.vals a)=VA at *
 generalize lst y (volR.vals b)=VB at *
 by_cases hl:a.length=b.length
 ·have hl':(a.length:Int)=(b.length:Int):=by omega
  simp -implicitDefEqProofs [r82,p82,la,lb,hl]
  rw [LL_for (γ:=Unit) (a.zip b) () (fun i _=>[(13,.int .i64 (i:Int))]) (fun _ _=>[]) (fun _ rest _=>if rest.all (fun p=>decide (p.1=p.2)) then (.exit 0,[(13,undef)],[]) else (.ret,[(4,.bool false),(13,undef)],[])) (fun _ _=>True) (by rw [List.length_zip];omega) trivial]
  ·have hz:(a.zip b).all (fun p=>decide (p.1=p.2))=decide (a=b):=zip_all hl
   rw [hz]
   by_cases hab:a=b
   ·rw [decide_eq_true hab]
    simp -implicitDefEqProofs [k82_4]
   ·rw [decide_eq_false hab]
    simp -implicitDefEqProofs [k82_4]
  ·simp -implicitDefEqProofs [k82_4]
  ·rfl
  ·intro nx i c hi _
   have hi2:¬ ((i:Nat):Int)<(b.length:Int):=by rw [List.length_zip] at hi;omega
   simp -implicitDefEqProofs [r82_4,k82_4,hi2,trim_le]
  ·intro nx i p rest u hi hv hd hw _ ih
   have ih:=ih () trivial
   have hi1:i<a.length:=by rw [List.length_zip] at hi;omega
   have hi2:i<b.length:=by rw [List.length_zip] at hi;omega
   have hi3:((i:Nat):Int)<(b.length:Int):=by omega
   have xa:=ia i hi1
   have xb:=ib i hi2
   have hp:p=(a[i],b[i]):=by rw [← hv,List.getElem_zip]
   rw [hp]
   have ne:=neqV a[i] b[i]
   have f1:=fit a[i]
   have f2:=fit b[i]
   rw [List.all_cons]
   simp only
   generalize a[i]=u1 at *
   generalize b[i]=u2 at *
   by_cases hu:u1=u2
   ·subst hu
    rw [decide_eq_true rfl] at ne
    rw [decide_eq_true rfl,Bool.true_and]
    generalize volR.val u1=W1 at *
    generalize hRA:rest.all (fun p=>decide (p.1=p.2))=RA at *
    simp -implicitDefEqProofs [k82_4] at ih
    simp -implicitDefEqProofs [r82_4,k82_4,hi3,xa,xb,f1,ne,hw,trim_le]
    exact ih
   ·rw [decide_eq_false hu] at ne
    rw [decide_eq_false hu,Bool.false_and]
    generalize volR.val u1=W1 at *
    generalize volR.val u2=W2 at *
    simp -implicitDefEqProofs [r82_4,k82_4,hi3,xa,xb,f1,f2,ne,trim_le]
 ·have hl':¬ (a.length:Int)=(b.length:Int):=by omega
  have hab:¬ a=b:=fun q=>hl (by rw [q])
  rw [decide_eq_false hab]
  simp -implicitDefEqProofs [r82,p82,la,lb,hl']
theorem eqe_pure {x y:Bool} (a b:List Ent) (ha:a.length≤1000000) (_hb:b.length≤1000000):pureCall E.P (L E) 83 [lst x (entR.vals a),lst y (entR.vals b)]=some (.bool (decide (a=b))):=by
 have la:∀ h,lenT .sl h (lst x (entR.vals a))=some (.int .i64 a.length):=fun h=>Rec.tree_len
 have lb:∀ h,lenT .sl h (lst y (entR.vals b))=some (.int .i64 b.length):=fun h=>Rec.tree_len
 have ia:=fun (i:Nat) (hi:i<a.length)=>Rec.index_tree (R:=entR) (h0:=2) (x:=x) (t:=tE) (k:=.i64) rfl hi
 have ib:=fun (i:Nat) (hi:i<b.length)=>Rec.index_tree (R:=entR) (h0:=2) (x:=y) (t:=tE) (k:=.i64) rfl hi
 have fit:∀ v:Ent,fitsTT ⟨some true,some 2⟩ (entR.val v)=true:=fun v=>rfl
 rw [pureCall_fn F83 rfl]
 generalize lst x (entR.vals a)=VA at *
 generalize lst y (entR.vals b)=VB at *
 by_cases hl:a.length=b.length
 ·have hl':(a.length:Int)=(b.length:Int):=by omega
  simp -implicitDefEqProofs [r83,p83,la,lb,hl]
  rw [LL_for (γ:=Unit) (a.zip b) () (fun i _=>[(13,.int .i64 (i:Int))]) (fun _ _=>[]) (fun _ rest _=>if rest.all (fun p=>decide (p.1=p.2)) then (.exit 0,[(13,undef)],[]) else (.ret,[(4,.bool false),(13,undef)],[])) (fun _ _=>True) (by rw [List.length_zip];omega) trivial]
  ·have hz:(a.zip b).all (fun p=>decide (p.1=p.2))=decide (a=b):=zip_all hl
   rw [hz]
   by_cases hab:a=b
   ·rw [decide_eq_true hab]
    simp -implicitDefEqProofs [k83_4]
   ·rw [decide_eq_false hab]
    simp -implicitDefEqProofs [k83_4]
  ·simp -implicitDefEqProofs [k83_4]
  ·rfl
  ·intro nx i c hi _
   have hi2:¬ ((i:Nat):Int)<(b.length:Int):=by rw [List.length_zip] at hi;omega
   simp -implicitDefEqProofs [r83_4,k83_4,hi2,trim_le]
  ·intro nx i p rest u hi hv hd hw _ ih
   have ih:=ih () trivial
   have hi1:i<a.length:=by rw [List.length_zip] at hi;omega
   have hi2:i<b.length:=by rw [List.length_zip] at hi;omega
   have hi3:((i:Nat):Int)<(b.length:Int):=by omega
   have xa:=ia i hi1
   have xb:=ib i hi2
   have hp:p=(a[i],b[i]):=by rw [← hv,List.getElem_zip]
   rw [hp]
   have ne:=neqE a[i] b[i]
   have f1:=fit a[i]
   have f2:=fit b[i]
   rw [List.all_cons]
   simp only
   generalize a[i]=u1 at *
   generalize b[i]=u2 at *
   by_cases hu:u1=u2
   ·subst hu
    rw [decide_eq_true rfl] at ne
    rw [decide_eq_true rfl,Bool.true_and]
    generalize entR.val u1=W1 at *
    generalize hRA:rest.all (fun p=>decide (p.1=p.2))=RA at *
    simp -implicitDefEqProofs [k83_4] at ih
    simp -implicitDefEqProofs [r83_4,k83_4,hi3,xa,xb,f1,ne,hw,trim_le]
    exact ih
   ·rw [decide_eq_false hu] at ne
    rw [decide_eq_false hu,Bool.false_and]
    generalize entR.val u1=W1 at *
    generalize entR.val u2=W2 at *
    simp -implicitDefEqProofs [r83_4,k83_4,hi3,xa,xb,f1,f2,ne,trim_le]
 ·have hl':¬ (a.length:Int)=(b.length:Int):=by omega
  have hab:¬ a=b:=fun q=>hl (by rw [q])
  rw [decide_eq_false hab]
  simp -implicitDefEqProofs [r83,p83,la,lb,hl']
end Go.Proofs.YtplebjehcgcdeaaGreatDoor.Bm
namespace Go.Proofs.YtplebjehcgcdeaaGreatDoor.Bm
open Go Go.RowKit
def topE (E:Env) (g:FuncId→Option (List Value→Heap→Nat→Res)):Env:={ E with orc:=g,dm:=false }
section
variable {E:Env} {g:FuncId→Option (List Value→Heap→Nat→Res)}
theorem top_with {sl draw:Bool} {ops:Array Oper}:withStrict (topE E g) sl draw ops=withStrict E sl draw ops:=rfl
theorem top_race {sl:Bool} {ops:Array Oper}:withRace (topE E g) sl ops=withRace E sl ops:=rfl
theorem top_rc {f:FuncId}:∀ (c:Code),rcOf (topE E g) f c=rcOf E f c:=by
 intro c
 induction c with
 | seq a b iha ihb=>simp only [rcOf,iha,ihb]
 | cond x a b iha ihb=>simp only [rcOf,iha,ihb]
 | block i a ih=>simp only [rcOf,ih]
 | loop a ih=>simp only [rcOf,ih];rfl
 | scope a ih=>simp only [rcOf,ih]
 | region id ops draw=>simp only [rcOf,top_with,top_race];rfl
 | _=>rfl
theorem top_fn {f:FuncId}:rfnOf (topE E g) f=rfnOf E f:=by
 simp only [rfnOf,top_rc];rfl
end
end Go.Proofs.YtplebjehcgcdeaaGreatDoor.Bm
namespace Go.Proofs.YtplebjehcgcdeaaGreatDoor.Bm
open Go Go.RowKit Go.Shelf
theorem lies_self {P:Program} {T:TypeId} {n:Nat} (hd:P.depth≠0) (hc:P.cellsOf T≠0) (hn:P.cellsOf T≤n):liesAt P P.depth T (n / P.cellsOf T) 0 T 1=true:=by
 obtain ⟨d,hd⟩:=Nat.exists_eq_succ_of_ne_zero hd
 rw [hd]
 unfold liesAt
 rw [hd]
 unfold rowAt
 have h1:1≤n / P.cellsOf T:=Nat.div_pos hn (Nat.pos_of_ne_zero hc)
 have h2:sameLayout P (d+1) T T=true:=by unfold sameLayout;simp
 simp [hc,h1,h2]
structure BldCon (P:Program) (cc st:FuncId) (T U:TypeId):Prop where
 ccd:∃ fn,P.funcs[cc]?=some fn∧fn.body.isSome=true
 std:∃ fn,P.funcs[st]?=some fn∧fn.body.isSome=true
 fresh:∀ (b n:Nat) (w:World),w.cell? ⟨b,0,none⟩=some (.pointer none)→w.shape? b=some (T,n)→2≤n→w.frozen? ⟨b,0,none⟩=false →
  Calls P cc #[.pointer (some ⟨b,0,none⟩)] w fun e w'=>e=.returned (.tuple #[])∧w'=w.setCell ⟨b,0,none⟩ (.pointer (some ⟨b,0,none⟩))
 used:∀ (b:Nat) (w:World),w.cell? ⟨b,0,none⟩=some (.pointer (some ⟨b,0,none⟩))→Calls P cc #[.pointer (some ⟨b,0,none⟩)] w fun e w'=>e=.returned (.tuple #[])∧w'=w
 str:∀ (b g cap m:Nat) (l:List UInt8) (w:World),w.cell? ⟨b,1,none⟩=some (.slice (some ⟨g,0,none⟩) l.length cap)→w.shape? g=some (U,m)→l≠[]→0<cap→l.length≤m→l.length≤9223372036854775807 →
  (∀ j x,l[j]?=some x→w.cell? ⟨g,j,none⟩=some (.int .u8 x.toNat))→Calls P st #[.pointer (some ⟨b,0,none⟩)] w fun e w'=>e=.returned (.string ⟨l.toArray⟩)∧w'=w.drew.freeze ⟨g,0,none⟩ l.length
section
variable {P:Program} {ρ:Ren}
set_option maxHeartbeats 1000000 in
set_option maxRecDepth 100000 in
theorem fresh_walk (L:Lays.n240 P ρ) (X:Builder.X72 P ρ) (hd:P.depth≠0) (hc:P.cellsOf (ρ.t 72)=2) (b n:Nat) (w:World) (h0:w.cell? ⟨b,0,none⟩=some (.pointer none)) (hsh:w.shape? b=some ((ρ.t 72),n)) (hn:2≤n) (hfz:w.frozen? ⟨b,0,none⟩=false) :
  Calls P (ρ.f 240) #[.pointer (some ⟨b,0,none⟩)] w fun e w'=>e=.returned (.tuple #[])∧w'=w.setCell ⟨b,0,none⟩ (.pointer (some ⟨b,0,none⟩)):=by
 obtain ⟨j,hj,hjs⟩:=Option.map_eq_some_iff.1 X.sizeBuilder
 have mixed:=L.mixed
 have t72:=L.t72;have a72:=L.a72;have z72:=L.z72;have v72:=L.v72;have u72:=run_underlying L.t72
 have t70:=L.t70;have a70:=L.a70;have z70:=L.z70;have v70:=L.v70;have u70:=run_underlying L.t70
 have t9:=L.t9;have a9:=L.a9;have z9:=L.z9;have v9:=L.v9;have u9:=run_underlying L.t9
 have t4:=L.t4;have a4:=L.a4;have z4:=L.z4;have v4:=L.v4;have u4:=run_underlying L.t4
 have t164:=L.t164;have a164:=L.a164;have z164:=L.z164;have v164:=L.v164;have u164:=run_underlying L.t164
 go_enter L.f240,Body.n240_ntmps ρ
 go_wp2
 rw [Lib.run_to_unsafe w ⟨b,0,none⟩ L.t70 L.t164 hj (by rw [hjs];decide) hsh (show 0<n by omega)]
 simp only [Result.andThen]
 rw [Oper.upon_value]
 go_wp2
 rw [run_callFunc_extern L.f276 (by kernel_rfl) (by kernel_rfl) (by kernel_rfl) (e:=Extern.AbiNoEscape.same) (by kernel_rfl)]
 rw [Lib.run_noEscape]
 simp only [Result.andThen]
 rw [Oper.upon_value]
 go_wp2
 rw [Lib.run_from_unsafe w ⟨b,0,none⟩ L.t164 L.t70 hj hsh (lies_self hd (by rw [hc];decide) (by rw [hc];exact hn))]
 simp only [Result.andThen]
 rw [Oper.upon_value]
 go_wp2
 go_end0
 exact ⟨rfl,rfl⟩
set_option maxHeartbeats 1000000 in
set_option maxRecDepth 100000 in
theorem string_walk (L:Lays.n169 P ρ) (X:Builder.Extra P ρ) (b g cap m:Nat) (l:List UInt8) (w:World) (c0:w.cell? ⟨b,1,none⟩=some (.slice (some ⟨g,0,none⟩) l.length cap)) (hsh:w.shape? g=some ((ρ.t 5),m)) (h0:l≠[]) (hcap:0<cap) (hm:l.length≤m)
  (h63:l.length≤9223372036854775807) (hcell:∀ j x,l[j]?=some x→w.cell? ⟨g,j,none⟩=some (.int .u8 x.toNat)) :
  Calls P (ρ.f 169) #[.pointer (some ⟨b,0,none⟩)] w fun e w'=>e=.returned (.string ⟨l.toArray⟩)∧w'=w.drew.freeze ⟨g,0,none⟩ l.length:=by
 have hl0:l.length≠0:=by simpa using h0
 have c1:w.drew.cell? ⟨b,1,none⟩=some (.slice (some ⟨g,0,none⟩) l.length cap):=c0
 have hSD:(Builtin.unsafeSliceData_ #[(ρ.t 37)] (ρ.t 127) #[.slice (some ⟨g,0,none⟩) l.length cap]).run P w.drew=.ok (.pointer (some ⟨g,0,none⟩)) w.drew :=
  Lib.run_unsafeSliceData_row _ _ _ _ _ _ (by omega)
 have hUS:(Builtin.unsafeString_ #[(ρ.t 127),(ρ.t 3)] (ρ.t 9) #[.pointer (some ⟨g,0,none⟩),.int .i64 l.length]).run P w.drew=.ok (.string ⟨l.toArray⟩) (w.drew.freeze ⟨g,0,none⟩ l.length):=by
  refine Lib.run_unsafeString_row w.drew (ρ.t 127) (ρ.t 3) (ρ.t 9) (ρ.t 5) L.t127 X.cellsByte g m hsh l h0 hm h63 ?_
  intro j x hx
  have:=hcell j x hx
  rw [addr_add_add,Nat.zero_add];exact this
 have mixed:=L.mixed
 have t72:=L.t72;have a72:=L.a72;have z72:=L.z72;have v72:=L.v72;have u72:=run_underlying L.t72
 have t70:=L.t70;have a70:=L.a70;have z70:=L.z70;have v70:=L.v70;have u70:=run_underlying L.t70
 have t37:=L.t37;have a37:=L.a37;have z37:=L.z37;have v37:=L.v37;have u37:=run_underlying L.t37
 have t127:=L.t127;have a127:=L.a127;have z127:=L.z127;have v127:=L.v127;have u127:=run_underlying L.t127
 have t3:=L.t3;have a3:=L.a3;have z3:=L.z3;have v3:=L.v3;have u3:=run_underlying L.t3
 have t9:=L.t9;have a9:=L.a9;have z9:=L.z9;have v9:=L.v9;have u9:=run_underlying L.t9
 have t5:=X.t5;have a5:=X.a5;have z5:=X.z5;have v5:=X.v5;have u5:=run_underlying X.t5
 go_enter L.f169,Body.n169_ntmps ρ
 go_wp2
 go_region_o
 all_goals (go_wp2;go_ret;exact ⟨rfl,rfl⟩)
end
theorem bytesL_get:∀ {cs:List Value} {l:List UInt8},bytesL cs=some l→l.length=cs.length∧∀ (j:Nat) x,l[j]?=some x→cs[j]?=some (.int .u8 x.toNat)
 | [],l,h=>by
  cases h
  exact ⟨rfl,fun j x hx=>by simp at hx⟩
 | v :: cs,l,h=>by
  unfold bytesL at h
  obtain ⟨b,hb,h⟩:=Option.bind_eq_some_iff.1 h
  obtain ⟨l',hl,rfl⟩:=Option.map_eq_some_iff.1 h
  obtain ⟨h1,h2⟩:=bytesL_get hl
  have hv:v=.int .u8 b.toNat:=by
   unfold byteOf at hb
   split at hb
   ·rename_i n
    split at hb
    ·rename_i e
     cases hb
     rw [← e]
    ·cases hb
   ·cases hb
  refine ⟨by simp [h1],fun j x hx=>?_⟩
  cases j with
  | zero=>simp at hx;subst hx;simp [hv]
  | succ j=>simpa using h2 j x (by simpa using hx)
section
variable {E:Env} {B lo:Nat} {M:Mem} {h h':Heap} {w:World}
theorem one_arg {a:Addr} {args':Array Value} (hv:VRels M [.pointer (some a)] args'.toList):∃ a',args'=#[.pointer (some a')]∧Place M a a':=by
 obtain ⟨l'⟩:=args'
 obtain ⟨hl,hr⟩:=hv
 match l',hl with
 | [x],_ =>
  obtain ⟨a',rfl,hp⟩:=(hr 0 _ _ rfl rfl).ptrSome
  exact ⟨a',rfl,hp⟩
theorem plain_place {a a':Addr} (hp:Place M a a') (hpl:plainA a=true):∃ l,M.obj a.block=some l∧l.grown=0∧a'=⟨l.blk,0,none⟩:=by
 unfold plainA at hpl
 simp only [Bool.and_eq_true,beq_iff_eq] at hpl
 obtain ⟨l,h1,h2⟩:=hp
 rw [hpl.2] at h2
 exact ⟨l,h1,h2.1,by rw [h2.2,hpl.1];rfl⟩
theorem cpc_sound {cc st:FuncId} {T U:TypeId} (hC:BldCon E.P cc st T U) {args:List Value} {v:Value} (hr:cpcG T args h lo=some (v,h')) (args':Array Value) (hs:HSim E B M h w) (hv:VRels M args args'.toList) :
  Calls E.P cc args' w fun e w'=>∃ v',e=.returned v'∧Out E B lo M h w v h' v' w':=by
 unfold cpcG at hr
 split at hr
 case h_2=>cases hr
 rename_i a
 split at hr
 case h_2=>cases hr
 rename_i t p b hob
 split at hr
 case isFalse=>cases hr
 rename_i hc
 simp only [Bool.and_eq_true,beq_iff_eq,decide_eq_true_eq] at hc
 obtain ⟨⟨rfl,hpl⟩,hlo⟩:=hc
 obtain ⟨a',rfl,hp⟩:=one_arg hv
 obtain ⟨l,hl,hg,rfl⟩:=plain_place hp hpl
 obtain ⟨_,_,_,hre⟩:=hs.obj _ l t _ 0 hl hob
 have hreal:l.real:=.inl hg
 obtain ⟨cs,_,hb,hsz,hoff,hc⟩:=hre hreal
 obtain ⟨_,p',hp0,hpr⟩:=hc 0 p rfl
 obtain ⟨b1,b',hb0,hbr⟩:=hc 1 b rfl
 have hp0:cs[0]?=some p':=by simpa [Loc.off] using hp0
 have hb0:cs[1]?=some b':=by simpa [Loc.off] using hb0
 have hs2:2≤cs.size:=by rw [hsz];simpa [Loc.off] using hoff
 split at hr
 ·cases hr
  have:=hpr.ptrNone;subst this
  refine (hC.fresh l.blk cs.size w (by simp [World.cell?,hb,hp0]) (by simp [World.shape?,hb]) hs2 (by simp [World.frozen?,hb])).mono ?_
  rintro e w' ⟨rfl,rfl⟩
  have hset:w.setCell ⟨l.blk,0,none⟩ (.pointer (some ⟨l.blk,0,none⟩))=w.setRow l.blk (cs.setIfInBounds 0 (.pointer (some ⟨l.blk,0,none⟩))):=by
   unfold World.setCell World.setRow
   congr 1
   have hlt:=(Array.getElem?_eq_some_iff.1 hb).1
   have hbb:w.heap[l.blk]=.cells cs t (0,0):=(Array.getElem?_eq_some_iff.1 hb).2
   refine Array.ext_getElem? fun i=>?_
   simp only [Array.getElem?_modify]
   by_cases hi:l.blk=i
   ·subst hi;simp [hb]
   ·simp [hi]
  rw [hset]
  obtain ⟨k1,k2⟩:=hs.put (lo:=lo) (t:=t) (c:=[.pointer none,b]) (d:=[.pointer (some a),b]) (g:=0) (cs:=cs.setIfInBounds 0 (.pointer (some ⟨l.blk,0,none⟩))) hl hob hreal hlo (by simp [hsz]) (by simpa using hoff) (.inl rfl) (fun j v hj=>by
   match j,hj with
   | 0,hj =>
    cases hj
    exact ⟨rfl,_,by rw [show l.off+0=0 from rfl,Array.getElem?_setIfInBounds_self,if_pos (by omega)],.ptr _ _ hp⟩
   | 1,hj =>
    cases hj
    exact ⟨b1,b',by simp [Loc.off,hb0],hbr⟩
   | j+2,hj=>simp at hj)
  simp only [List.length_cons,List.length_nil] at k1 k2
  have e1:M.put a.block { blk:=l.blk,size:=l.size,grown:=l.grown,len:=if True then l.len else 0+1+1 } = M:=put_same (by rw [if_pos trivial];exact hl)
  rw [e1] at k1 k2
  exact ⟨_,rfl,M,.top _,k1,k2⟩
 ·rename_i a2
  split at hr
  case isFalse=>cases hr
  rename_i h2
  cases hr
  simp only [Bool.and_eq_true,beq_iff_eq] at h2
  obtain ⟨a2',rfl,hp2⟩:=hpr.ptrSome
  obtain ⟨l2,hl2,_,rfl⟩:=plain_place hp2 h2.2
  rw [h2.1,hl] at hl2
  cases hl2
  refine (hC.used l.blk w (by simp [World.cell?,hb,hp0])).mono ?_
  rintro e w' ⟨rfl,rfl⟩
  exact ⟨_,rfl,Out.same hs (.top _)⟩
 ·cases hr
theorem bst_sound {cc st:FuncId} {T U:TypeId} (hC:BldCon E.P cc st T U) {args:List Value} {v:Value} (hr:bstG T U args h lo=some (v,h')) (args':Array Value) (hs:HSim E B M h w) (hv:VRels M args args'.toList) :
  Calls E.P st args' w fun e w'=>∃ v',e=.returned v'∧Out E B lo M h w v h' v' w':=by
 unfold bstG at hr
 split at hr
 case h_2=>cases hr
 rename_i a
 split at hr
 case h_2=>cases hr
 rename_i t p r n c hob
 split at hr
 case isFalse=>cases hr
 rename_i hc
 simp only [Bool.and_eq_true,beq_iff_eq,decide_eq_true_eq,bne_iff_ne,ne_eq] at hc
 obtain ⟨⟨⟨⟨⟨rfl,hpl⟩,hn0⟩,hn63⟩,hr0⟩,hlo⟩:=hc
 split at hr
 case h_2=>cases hr
 rename_i u row g hrow
 split at hr
 case isFalse=>cases hr
 rename_i hu
 have hu:u=U:=by simpa using hu
 subst hu
 obtain ⟨cs0,hrd,hr⟩:=Option.bind_eq_some_iff.1 hr
 obtain ⟨bl,hbl,hr⟩:=Option.map_eq_some_iff.1 hr
 obtain ⟨rfl,rfl⟩:=Prod.mk.inj hr
 obtain ⟨a',rfl,hp⟩:=one_arg hv
 obtain ⟨l,hl,hg,rfl⟩:=plain_place hp hpl
 obtain ⟨_,_,_,hre⟩:=hs.obj _ l t _ 0 hl hob
 obtain ⟨cs,_,hb,hsz,hoff,hc⟩:=hre (.inl hg)
 obtain ⟨_,b',hb0,hbr⟩:=hc 1 _ rfl
 have hb0:cs[1]?=some b':=by simpa [Loc.off] using hb0
 rcases hbr.sliceSome with ⟨r',c',rfl,hnc,hcr⟩ | ⟨_,h0,_⟩
 case inr=>exact absurd h0 hn0
 have hpr:=capRel_place hcr (by omega)
 obtain ⟨hcl,hone,cs',hrel,hcell⟩:=hs.read hpr hrd
 obtain ⟨lr,hlr,hlr2⟩:=hpr
 obtain ⟨gr,glen,gnr,gre⟩:=hs.obj _ lr u row (g+1) hlr hrow
 have hrlen:n≤row.length:=by
  unfold rdN rowOf at hrd
  rw [hrow] at hrd
  simp only at hrd
  split at hrd
  ·simp only [Option.bind_some] at hrd
   split at hrd
   ·omega
   ·cases hrd
  ·cases hrd
 have hstamp:∃ k,r.spot=some k∧k=row.length:=by
  unfold rdN rowOf at hrd
  rw [hrow] at hrd
  simp only at hrd
  split at hrd
  ·rename_i hst
   unfold stampOk at hst
   split at hst
   ·rename_i e;cases e
   ·rename_i k _ e _;exact ⟨_,e,by simpa using hst⟩
   ·cases hst
  ·cases hrd
 obtain ⟨k,hk,hkl⟩:=hstamp
 rw [hk] at hlr2
 obtain ⟨_,_,hlr3⟩:=hlr2
 have hcap:0<c':=by
  obtain ⟨l3,q1,q2⟩:=hcr
  rw [hk] at q2
  rw [hlr] at q1;cases q1
  have:=(q2.2.2 (by rw [glen (by omega),hkl])).1
  omega
 have hra:=hlr3 (by rw [glen (by omega),hkl])
 have hra:r'=⟨lr.blk,0,none⟩:=by rw [hra,hr0];rfl
 subst hra
 have hreal:lr.real:=Classical.byContradiction fun hn=>by
  have:=gnr hn;subst this;simp at hrlen;omega
 obtain ⟨csr,_,gb,gsz,goff,gc⟩:=gre hreal
 obtain ⟨hblen,hbget⟩:=bytesL_get hbl
 have hbn:bl.length=n:=by rw [hblen,hcl]
 have hcb:∀ (j:Nat) x,bl[j]?=some x→w.cell? ⟨lr.blk,j,none⟩=some (.int .u8 x.toNat):=fun j x hx=>by
  obtain ⟨v',h1,h2⟩:=hrel.get (hbget j x hx)
  have h3:=hcell j v' h1
  rw [h2.int] at h3
  rw [addr_add_add,Nat.zero_add] at h3
  exact h3
 refine (hC.str l.blk lr.blk c' csr.size bl w (by simp [World.cell?,hb,hb0,hbn]) (by simp [World.shape?,gb]) (fun e=>by rw [e] at hbn;exact hn0 hbn.symm) hcap (by rw [hbn,gsz];exact Nat.le_trans hrlen (by simpa [Loc.off] using goff)) (by rw [hbn];exact hn63) hcb).mono ?_
 rintro e w' ⟨rfl,rfl⟩
 have halive:alive h r.block:=⟨_,hrow,by simp⟩
 have hsize:(w.drew.freeze ⟨lr.blk,0,none⟩ bl.length).heap.size=w.heap.size:=by
  unfold World.freeze;split
  ·rfl
  ·simp
 have hoth:∀ k,k≠lr.blk→(w.drew.freeze ⟨lr.blk,0,none⟩ bl.length).heap[k]?=w.heap[k]?:=fun k hk=>by
  unfold World.freeze;split
  ·rfl
  ·simp only [Array.getElem?_modify]
   rw [if_neg (fun e=>hk e.symm)];rfl
 have hphi:∀ b x v,M.phi b x=some v→(w.drew.freeze ⟨lr.blk,0,none⟩ bl.length).cell? ⟨b,x,none⟩=some v:=fun b x v hv=>by
  have hne:b≠lr.blk:=fun e=>by
   have:=hs.sep _ lr hlr halive hreal x
   rw [e,this] at hv;cases hv
  rw [← hs.phi b x v hv]
  exact World.cell?_of_block (hoth b hne)
 refine ⟨_,rfl,M,.atom _ rfl,?_,?_⟩
 ·refine hs.change (.refl M) r.block (by rw [hsize];exact Nat.le_refl _) (fun g hg=>hoth g (Nat.ne_of_lt (Nat.lt_of_lt_of_le hg ((hs.dom _ lr hlr).2 hreal).1))) (by simp) (fun o₂ l₂ ho hl₂=>⟨hl₂,List.getElem?_set_ne (Ne.symm ho)⟩)
   (fun o₂ l₂ h1 h2 h3 h4=>hoth _ fun e=>h1 (hs.inj o₂ _ l₂ lr h2 hlr h3 halive h4 hreal e)) hphi (fun o₂ l₂ h1 h2 h3 h4=>hs.sep o₂ l₂ h2 h3 h4) fun l₂ hl₂=>?_
  have hlt:=hs.lt _ _ hl₂
  refine ⟨by simpa using hlt,fun hr=>by rw [hsize];exact (hs.dom _ _ hl₂).2 hr,fun ha=>absurd rfl (alive_dead ha).1,fun t' c' g' hob'=>?_,fun es ck hob'=>?_⟩ <;> (rw [List.getElem?_set_self hlt] at hob';cases hob')
 ·exact ⟨by unfold World.freeze;split <;> rfl,by unfold World.freeze;split <;> rfl,by unfold World.freeze;split <;> rfl,fun _=>by unfold World.freeze;split <;> exact Nat.le_succ _,by rw [hsize];exact Nat.le_refl _,
   fun b _ hn=>hoth b fun e=>hn ⟨_,lr,hlo,hlr,halive,hreal,e.symm⟩,by simp,fun o₂ ho=>List.getElem?_set_ne (by omega),fun o₂ _ ha=>(alive_dead ha).2,fun _ _=>rfl,.refl M,fun _ _ hn=>hn,
   fun o₂ l₂ ho hl₂ ha hr=>.inr ⟨o₂,l₂,ho,hl₂,(alive_dead ha).2,hr,rfl⟩,fun _ _ _ hv=>.inl hv⟩
theorem cpc_keep {T:TypeId} {args:List Value} {v:Value} (hr:cpcG T args h lo=some (v,h')):Keep lo h h':=by
 unfold cpcG at hr
 split at hr
 case h_2=>cases hr
 split at hr
 case h_2=>cases hr
 rename_i hob
 split at hr
 case isFalse=>cases hr
 rename_i hc
 simp only [Bool.and_eq_true,beq_iff_eq,decide_eq_true_eq] at hc
 split at hr
 ·cases hr
  exact ⟨by simp,fun o ho=>by rw [List.getElem?_set_ne (by omega)],fun o _ ha=>(alive_set hob).1 ha⟩
 ·split at hr
  ·cases hr;exact .refl _ _
  ·cases hr
 ·cases hr
theorem bst_keep {T U:TypeId} {args:List Value} {v:Value} (hr:bstG T U args h lo=some (v,h')):Keep lo h h':=by
 unfold bstG at hr
 split at hr
 case h_2=>cases hr
 split at hr
 case h_2=>cases hr
 split at hr
 case isFalse=>cases hr
 rename_i hc
 simp only [Bool.and_eq_true,decide_eq_true_eq] at hc
 split at hr
 case h_2=>cases hr
 split at hr
 case isFalse=>cases hr
 obtain ⟨cs0,_,hr⟩:=Option.bind_eq_some_iff.1 hr
 obtain ⟨bl,_,hr⟩:=Option.map_eq_some_iff.1 hr
 obtain ⟨rfl,rfl⟩:=Prod.mk.inj hr
 exact Keep.dead hc.2
end
end Go.Proofs.YtplebjehcgcdeaaGreatDoor.Bm
