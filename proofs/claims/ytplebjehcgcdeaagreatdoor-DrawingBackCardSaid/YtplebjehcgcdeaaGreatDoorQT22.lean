/-
 The program encodes a drawing. Conditions: lists that are not too long.
-/
import Derived.Test.YtplebjehcgcdeaaGreatDoorQT21
import Derived.Test.YtplebjehcgcdeaaGreatDoorQT16
namespace Go.Proofs.YtplebjehcgcdeaaGreatDoor.Bm
open Go Go.RowKit
open Dw (Vol Ent Phs Drw rightRB rightV meetV volsB givesB phsB formB nameB)
theorem uStr:E.P.underlying 9=some .string:=by kernel_rfl
theorem ba_beq (a b:ByteArray):(a == b)=decide (a=b):=by
 rw [Bool.eq_iff_iff,decide_eq_true_iff]
 obtain ⟨x⟩:=a
 obtain ⟨y⟩:=b
 show (x == y)=true↔_
 rw [beq_iff_eq,ByteArray.mk.injEq]
def strL (l:List UInt8):Value:=.string ⟨⟨l⟩⟩
theorem strK:KeyEnc E.P 9 strL where
 flat _:=rfl
 ok s:=by unfold keyOk strL;rw [uStr]
 eq a b:=by
  unfold aKeyEq strL
  rw [uStr]
  show some ((⟨⟨a⟩⟩:ByteArray) == ⟨⟨b⟩⟩)=_
  rw [ba_beq]
  congr 1
  exact decide_eq_decide.2 str_inj
 bits s:=by
  show ((⟨⟨s⟩⟩:ByteArray) == ⟨⟨s⟩⟩)=true
  rw [ba_beq,decide_eq_true rfl]
def setN (pre:List (List UInt8)):List (List UInt8 × Value):=pre.map fun l=>(l,.bool true)
theorem setN_get {pre:List (List UInt8)} {l:List UInt8}:aget (setN pre) l=if l∈pre then some (.bool true) else none:=by
 induction pre with
 | nil=>rfl
 | cons x r ih =>
  show (if x=l then some (Value.bool true) else aget (setN r) l)=_
  rw [ih]
  by_cases h:x=l
  ·simp [h]
  ·have h':¬ l=x:=fun q=>h q.symm
   simp [h,h']
theorem setN_put {pre:List (List UInt8)} {l:List UInt8} (h:l ∉ pre):aset (setN pre) l (.bool true)=setN (pre++[l]):=by
 rw [aset_new (by rw [setN_get,if_neg h])]
 unfold setN
 rw [List.map_append];rfl
theorem setN_bel (n:Nat) (c:List (List UInt8)):belowO n (mapB strL (setN c))=true:=by
 show (ents strL (setN c) 0).all (fun e=>below depth n e.key && below depth n e.val)=true
 generalize 0=i
 induction c generalizing i with
 | nil=>rfl
 | cons x r ih=>exact ih (i+1)
def gpre:List (List UInt8)→List Ent→List (List UInt8)
 | pre,[]=>pre
 | pre,e :: r=>if (!decide (e.1∈pre) && nameB e.1 && decide (0≤e.2) && decide (e.2≤1073741824))=true then gpre (pre++[e.1]) r else pre
theorem vol_set (v:Vol):(volR.enc v).all (settled 8)=true:=rfl
theorem vol_len (v:Vol):(volR.enc v).length=9:=rfl
theorem box_clo (A:AObj) (v:Vol):reify E.P 8 [A,.cells tV (volR.enc v) 0] (.func (.func 65) ⟨[]⟩ ⟨[.pointer (some ⟨1,0,none⟩)]⟩)=some (clV v):=by
 have h2:=vol_set v
 have h3:=vol_len v
 unfold clV
 generalize volR.enc v=LV at *
 simp -implicitDefEqProofs [sVol,aVol,h3,reifyC_set h2]
theorem form_pure (k:Option Bool) (d:Drw) (hk:Rec.Ok k d.phs) (hp:d.phs.length≤1000000) (hv:d.all.length≤1000000) (hg:∀ p∈d.phs,p.gives.length≤1000000∧∀ e∈p.gives,e.1.length≤1000000) :
  pureCall E.P (L E) 21 [drV k d]=some (.bool (formB d)):=by
 have al:=all_spec k d hk hp hv
 have hs:settled 8 (drV k d)=true:=by
  show ([_,_]:List Value).all (settled 7)=true
  simp only [List.all_cons,List.all_nil,Bool.and_true,Bool.and_eq_true]
  exact ⟨rfl,Rec.o_set⟩
 unfold formB
 generalize hL:d.all=l at *
 obtain ⟨lot,phs⟩:=d
 simp only at hk hp hg ⊢
 have ll:∀ h,lenT .sl h (phR.o k phs)=some (.int .i64 phs.length):=fun h=>Rec.o_len hk
 have lv:∀ h,lenT .sl h (lst false (volR.vals l))=some (.int .i64 l.length):=fun h=>Rec.tree_len
 have ix:=fun (i:Nat) (hi:i<phs.length)=>Rec.o_index (R:=phR) (s:=2) (t:=tP) (kk:=.i64) rfl hk hi
 have iv:=fun (i:Nat) (hi:i<l.length)=>Rec.index_tree (R:=volR) (h0:=9) (x:=false) (t:=tV) (k:=.i64) rfl hi
 have tk:∀ h (i:Nat),i<l.length→sliceT (.sl tV ⟨some true,some 9⟩) h (lst false (volR.vals l)) none (some (.int .i64 (i:Int))) none=some (lst false (volR.vals (l.take i))):=fun h i hi=>by
  show sliceT (.sl tV ⟨some true,some (volR.m+1)⟩) h (lst false (volR.vals l)) none (some (.int .i64 (i:Int))) none=_
  rw [slice_take (Rec.vals_all l) (by rw [Rec.vals_len];omega)]
  unfold Rec.vals
  rw [List.map_take];rfl
 have bP:∀ d n,below (d+1) n (phR.o k phs)=true:=fun d n=>Rec.o_bel
 have bV:∀ d n,below (d+1) n (lst false (volR.vals l))=true:=fun d n=>rfl
 unfold drV at *
 simp only at *
 generalize phR.o k phs=VP at *
 have bD:∀ n,below 8 n (.agg ⟨[.int .i64 lot,VP]⟩)=true:=fun n=>by show ([_,_]:List Value).all (below 7 n)=true;simp only [List.all_cons,List.all_nil,bP,bel_int,Bool.and_self]
 obtain ⟨A0,hA⟩:∃ A,AObj.cells tD [.int .i64 lot,VP] 0=A:=⟨_,rfl⟩
 have bl:∀ n,belowO n A0=true:=fun n=>by rw [← hA];show ([_,_]:List Value).all (below 8 n)=true;simp only [List.all_cons,List.all_nil,bP,bel_int,Bool.and_self]
 have ld0:∀ X,loadT ⟨some false,some 1⟩ (A0 :: X) (.pointer (some ⟨0,0,none⟩))=some (.int .i64 lot):=fun X=>by rw [← hA];exact obj_load (j:=0) (t:=tD) (c:=[.int .i64 lot,VP]) rfl rfl
 have ld:∀ X,loadT ⟨some false,some 1⟩ (A0 :: X) (.pointer (some ⟨0,1,none⟩))=some VP:=fun X=>by rw [← hA];exact obj_load (j:=1) (t:=tD) (c:=[.int .i64 lot,VP]) rfl rfl
 have la:∀ X,loadT ⟨some true,some 2⟩ (A0 :: X) (.pointer (some ⟨0,0,none⟩))=some (.agg ⟨[.int .i64 lot,VP]⟩):=fun X=>by rw [← hA];exact obj_all (n:=2) (t:=tD) (c:=[.int .i64 lot,VP]) rfl rfl
 rw [pureCall_fn F21 rfl]
 by_cases c1:0≤lot
 case neg =>
  have c1':lot<0:=by omega
  simp -implicitDefEqProofs [r21,p21,ret1s m59,hs,al,hA,ld0,la,c1,c1']
 have c1':¬ lot<0:=by omega
 by_cases c2:lot≤1073741824
 case neg =>
  have c2':1073741824<lot:=by omega
  simp -implicitDefEqProofs [r21,p21,ret1s m59,hs,al,hA,ld0,la,c1,c1',c2,c2']
 have c2':¬ 1073741824<lot:=by omega
 by_cases c3:1≤phs.length
 case neg =>
  have c3':(phs.length:Int)<1:=by omega
  simp -implicitDefEqProofs [r21,p21,ret1s m59,hs,al,hA,ld0,ld,la,ll,c1,c1',c2,c2',c3,c3']
 have c3':¬ (phs.length:Int)<1:=by omega
 by_cases c4:phs.length≤8
 case neg =>
  have c4':8<(phs.length:Int):=by omega
  simp -implicitDefEqProofs [r21,p21,ret1s m59,hs,al,hA,ld0,ld,la,ll,c1,c1',c2,c2',c3,c3',c4,c4']
 have c4':¬ 8<(phs.length:Int):=by omega
 by_cases c5:1≤l.length
 case neg =>
  have c5':(l.length:Int)<1:=by omega
  simp -implicitDefEqProofs [r21,p21,ret1s m59,hs,al,hA,ld0,ld,la,ll,lv,c1,c1',c2,c2',c3,c3',c4,c4',c5,c5']
 have c5':¬ (l.length:Int)<1:=by omega
 by_cases c6:l.length≤40
 case neg =>
  have c6':40<(l.length:Int):=by omega
  simp -implicitDefEqProofs [r21,p21,ret1s m59,hs,al,hA,ld0,ld,la,ll,lv,c1,c1',c2,c2',c3,c3',c4,c4',c5,c5',c6,c6']
 have c6':¬ 40<(l.length:Int):=by omega
 simp -implicitDefEqProofs [r21,p21,ret1s m59,hs,al,hA,ld0,ld,la,ll,lv,c1,c1',c2,c2',c3',c4',c5',c6']
 generalize hVL:lst false (volR.vals l)=VL at *
 rw [LL_for (γ:=Unit) l () (fun i _=>[(45,.int .i64 (i:Int))]) (fun _ _=>[A0]) (fun i rest _=>if volsB (l.take i) rest then (.exit 0,[(45,undef)],[A0]) else (.ret,[(2,.bool false),(45,undef)],[A0])) (fun i _=>∀ w∈l.take i,rightV w=true) (by omega) (by simp)]
 ·rw [List.take_zero]
  cases hvb:volsB [] l with
  | false=>simp -implicitDefEqProofs [k21_5]
  | true =>
   simp -implicitDefEqProofs [k21_5,ld,ll]
   rw [LL_for (γ:=Unit) phs () (fun i _=>[(64,.int .i64 (i:Int))]) (fun _ _=>[A0]) (fun i rest _=>if rest.all phsB then (.exit 2,[(64,undef)],[A0]) else (.ret,[(2,.bool false),(64,undef)],[A0])) (fun i _=>True) (by omega) trivial]
   ·cases hpb:phs.all phsB with
    | false=>simp -implicitDefEqProofs [k21_11]
    | true=>simp -implicitDefEqProofs [k21_11,c3,c4,c5,c6]
   ·simp -implicitDefEqProofs [k21_11]
   ·rfl
   ·intro nx i c hi _
    simp -implicitDefEqProofs [r21_11,k21_11,hi,trim_le]
   ·intro nx i q rest u hi hv2 hd hw _ ih
    have ih:=ih () trivial
    have xi:=ix i hi
    rw [hv2,ph_val] at xi
    obtain ⟨hg1,hg2⟩:=hg q (by rw [← hv2];exact List.getElem_mem hi)
    obtain ⟨qv,qg⟩:=q
    simp only at xi hg1 hg2
    have lg:∀ h,lenT .sl h (lst false (entR.vals qg))=some (.int .i64 qg.length):=fun h=>Rec.tree_len
    have ig:=fun (j:Nat) (hj:j<qg.length)=>Rec.index_tree (R:=entR) (h0:=2) (x:=false) (t:=tE) (k:=.i64) rfl hj
    have ftp:fitsTT ⟨some true,some 2⟩ (.agg ⟨[lst false (volR.vals qv),lst false (entR.vals qg)]⟩)=true:=rfl
    have bQ:∀ d n,below (d+1) n (lst false (entR.vals qg))=true:=fun d n=>rfl
    have bW:∀ d n,below (d+1) n (lst false (volR.vals qv))=true:=fun d n=>rfl
    rw [List.all_cons,show phsB ⟨qv,qg⟩=(givesB [] qg && decide (qg.length≤30)) from rfl]
    generalize rest.all phsB=RA at *
    generalize lst false (volR.vals qv)=VW at *
    generalize lst false (entR.vals qg)=VG at *
    have stp:storeT (some 2) [A0,.cells tP [.slice none 0 0,.slice none 0 0] 0] 0 (.agg ⟨[VW,VG]⟩) (.pointer (some ⟨1,0,none⟩))=some [A0,.cells tP [VW,VG] 0]:=snoc_put (g:=[A0]) rfl rfl (by decide) (Nat.zero_le _)
    have lp:∀ X,loadT ⟨some false,some 1⟩ (A0 :: .cells tP [VW,VG] 0 :: X) (.pointer (some ⟨1,1,none⟩))=some VG:=fun X=>obj_load (j:=1) (t:=tP) (c:=[VW,VG]) rfl rfl
    have em:AObj.map [] 0=mapB strL (setN []):=rfl
    simp -implicitDefEqProofs [r21_11,k21_11,hi,xi,ftp,stp,lp,lg,em]
    rw [LL_for (γ:=List (List UInt8)) qg [] (fun j _=>[(72,.int .i64 (j:Int))]) (fun _ c=>[A0,.cells tP [VW,VG] 0,mapB strL (setN c)]) (fun j rest c=>if givesB c rest then (.exit 4,[(72,undef)],[A0,.cells tP [VW,VG] 0,mapB strL (setN (gpre c rest))]) else (.ret,[(2,.bool false),(72,undef)],[A0,.cells tP [VW,VG] 0,mapB strL (setN (gpre c rest))])) (fun _ _=>True) (by omega) trivial]
    ·generalize gpre [] qg=C
     have bm:=fun n=>setN_bel n C
     simp -implicitDefEqProofs [k21_11] at ih
     cases hgb:givesB [] qg with
     | false=>simp -implicitDefEqProofs [k21_15,trim_cut,bl,bD,bP,bV,-List.all_eq_true]
     | true =>
      by_cases h30:qg.length≤30
      ·have h30':¬ 30<(qg.length:Int):=by omega
       simp -implicitDefEqProofs [k21_15,lp,lg,h30,h30',hw,trim_cut,bl,bD,bP,bV,-List.all_eq_true]
       exact ih
      ·have h30':30<(qg.length:Int):=by omega
       simp -implicitDefEqProofs [k21_15,lp,lg,h30,h30',trim_cut,bl,bD,bP,bV,-List.all_eq_true]
    ·simp -implicitDefEqProofs [k21_15]
    ·rfl
    ·intro nx j c hj _
     simp -implicitDefEqProofs [r21_15,k21_15,hj,trim_le,givesB,gpre]
    ·intro nx j e rst c hj hve hde hwe _ ihe
     have ihe:=ihe (c++[e.1]) trivial
     have xg:=ig j hj
     rw [hve] at xg
     obtain ⟨nm,z⟩:=e
     change _=some (cptr (.agg ⟨[strL nm,.int .i64 z]⟩)) at xg
     have fte:fitsTT ⟨some true,some 2⟩ (.agg ⟨[strL nm,.int .i64 z]⟩)=true:=rfl
     have np:=name_pure nm (hg2 (nm,z) (by rw [← hve];exact List.getElem_mem hj))
     change pureCall _ _ _ [strL nm]=_ at np
     have rfs:∀ h,reify E.P 8 h (strL nm)=some (strL nm):=fun h=>rfl
     have ste:∀ B C,storeT (some 2) [A0,B,C,.cells tE [.string ⟨⟨[]⟩⟩,.int .i64 0] 0] 0 (.agg ⟨[strL nm,.int .i64 z]⟩) (.pointer (some ⟨3,0,none⟩))=some [A0,B,C,.cells tE [strL nm,.int .i64 z] 0]:=fun B C=>snoc_put (g:=[A0,B,C]) rfl rfl (by decide) (Nat.zero_le _)
     have le0:∀ B C,loadT ⟨some false,some 1⟩ [A0,B,C,.cells tE [strL nm,.int .i64 z] 0] (.pointer (some ⟨3,0,none⟩))=some (strL nm):=fun B C=>obj_load (j:=0) (t:=tE) (c:=[strL nm,.int .i64 z]) rfl rfl
     have le1:∀ B C,loadT ⟨some false,some 1⟩ [A0,B,C,.cells tE [strL nm,.int .i64 z] 0] (.pointer (some ⟨3,1,none⟩))=some (.int .i64 z):=fun B C=>obj_load (j:=1) (t:=tE) (c:=[strL nm,.int .i64 z]) rfl rfl
     have bS:∀ d n,below (d+1) n (strL nm)=true:=fun d n=>rfl
     have bMp:below 8 3 (.map (some 2))=true:=rfl
     have bm:=fun n=>setN_bel n c
     unfold givesB gpre
     simp only
     by_cases hin:nm∈c
     ·have lk:∀ D,lookupT E.P (some ⟨9,some (.bool false)⟩) [A0,.cells tP [VW,VG] 0,mapB strL (setN c),D] (.map (some 2)) (strL nm) false=some (.bool true):=fun D=>lookup_some (ok:=false) strK rfl rfl (by rw [setN_get,if_pos hin])
      simp -implicitDefEqProofs [r21_15,k21_15,hj,xg,fte,ste,le0,lk,hin,trim_cut,bl,bm,bD,bP,bV,bQ,bW,bMp,-List.all_eq_true]
     ·have lk:∀ D,lookupT E.P (some ⟨9,some (.bool false)⟩) [A0,.cells tP [VW,VG] 0,mapB strL (setN c),D] (.map (some 2)) (strL nm) false=some (.bool false):=fun D=>lookup_none (ok:=false) strK rfl rfl (by rw [setN_get,if_neg hin])
      have pm:∀ D,mapPutT E.P (some ⟨9,some (.bool false)⟩) [A0,.cells tP [VW,VG] 0,mapB strL (setN c),D] 0 (.map (some 2)) (strL nm) (.bool true)=some [A0,.cells tP [VW,VG] 0,mapB strL (setN (c++[nm])),D]:=fun D=>by
       rw [put_map (z:=some (.bool false)) (r:=2) (l:=setN c) strK rfl (Nat.zero_le _),setN_put hin];rfl
      have bm2:=fun n=>setN_bel n (c++[nm])
      cases hnm:nameB nm with
      | false =>
       rw [hnm] at np
       simp -implicitDefEqProofs [r21_15,k21_15,hj,xg,fte,ste,le0,lk,hin,rfs,ret0 m67,np,trim_cut,bl,bm,bD,bP,bV,bQ,bW,bMp,-List.all_eq_true]
      | true =>
       rw [hnm] at np
       by_cases z1:0≤z
       ·have z1':¬ z<0:=by omega
        by_cases z2:z≤1073741824
        ·have z2':¬ 1073741824<z:=by omega
         have hcond:(!decide (nm∈c) && true && decide (0≤z) && decide (z≤1073741824))=true:=by simp [hin,z1,z2]
         rw [hcond,if_pos rfl,Bool.true_and]
         generalize gpre (c++[nm]) rst=G at *
         generalize givesB (c++[nm]) rst=GB at *
         simp -implicitDefEqProofs [k21_15] at ihe
         simp -implicitDefEqProofs [r21_15,k21_15,hj,xg,fte,ste,le0,le1,lk,rfs,ret0 m67,np,z1',z2',pm,hwe,trim_cut,bl,bm2,bD,bP,bV,bQ,bW,bMp,-List.all_eq_true]
         exact ihe
        ·have z2':1073741824<z:=by omega
         simp -implicitDefEqProofs [r21_15,k21_15,hj,xg,fte,ste,le0,le1,lk,hin,rfs,ret0 m67,np,z1,z1',z2,z2',trim_cut,bl,bm,bD,bP,bV,bQ,bW,bMp,-List.all_eq_true]
       ·have z1':z<0:=by omega
        simp -implicitDefEqProofs [r21_15,k21_15,hj,xg,fte,ste,le0,le1,lk,hin,rfs,ret0 m67,np,z1,z1',trim_cut,bl,bm,bD,bP,bV,bQ,bW,bMp,-List.all_eq_true]
 ·simp -implicitDefEqProofs [k21_5]
 ·rfl
 ·intro nx i c hi _
  simp -implicitDefEqProofs [r21_5,k21_5,hi,trim_le,volsB]
 ·intro nx i v rest u hi hv2 hd hw hinv ih
  have xi:=iv i hi
  rw [hv2] at xi
  change _=some (cptr (.agg ⟨volR.enc v⟩)) at xi
  have tki:=fun h=>tk h i hi
  have rv:=rightV_pure v
  have ftw:fitsTT ⟨some true,some 9⟩ (.agg ⟨volR.enc v⟩)=true:=rfl
  have rfw:∀ h,reify E.P 8 h (.agg ⟨volR.enc v⟩)=some (.agg ⟨volR.enc v⟩):=fun h=>rfl
  have rfc:=box_clo A0 v
  have rft:∀ h,reify E.P 8 h (lst false (volR.vals (l.take i)))=some (lst false (volR.vals (l.take i))):=fun h=>rfl
  have st:storeT (some 9) [A0,.cells tV [.int .i64 0,.int .i64 0,.int .i64 0,.int .i64 0,.int .i64 0,.int .i64 0,.int .i64 0,.int .i64 0,.bool false] 0] 0 (.agg ⟨volR.enc v⟩) (.pointer (some ⟨1,0,none⟩))=some [A0,.cells tV (volR.enc v) 0]:=snoc_put (g:=[A0]) rfl rfl (by decide) (Nat.zero_le _)
  have l9:loadT ⟨some true,some 9⟩ [A0,.cells tV (volR.enc v) 0] (.pointer (some ⟨1,0,none⟩))=some (.agg ⟨volR.enc v⟩):=snoc_all (g:=[A0]) rfl
  have et:l.take (i+1)=l.take i++[v]:=by rw [List.take_add_one,List.getElem?_eq_getElem hi,hv2];rfl
  unfold volsB
  cases hr:rightV v with
  | false =>
   simp -implicitDefEqProofs [r21_5,k21_5,hi,xi,ftw,st,l9,rfw,ret0 m28,rv,hr,trim_cut,bl,bD,bP,bV,-List.all_eq_true]
  | true =>
   have cp:=conts_pure (l.take i) false v hr hinv (by rw [List.length_take];omega)
   have ih:=ih () (by
    rw [et]
    intro w hw
    rcases List.mem_append.1 hw with q | q
    ·exact hinv w q
    ·rw [List.mem_singleton.1 q];exact hr)
   rw [et] at ih
   generalize lst false (volR.vals (l.take i))=VT at *
   generalize clV v=CL at *
   cases ha:(l.take i).any (meetV v) with
   | true =>
    rw [ha] at cp
    simp -implicitDefEqProofs [r21_5,k21_5,hi,xi,ftw,st,l9,rfw,ret0 m28,rv,hr,tki,rft,rfc,ret0 m64,cp,trim_cut,bl,bD,bP,bV,-List.all_eq_true]
   | false =>
    rw [ha] at cp
    simp -implicitDefEqProofs [k21_5] at ih
    simp -implicitDefEqProofs [r21_5,k21_5,hi,xi,ftw,st,l9,rfw,ret0 m28,rv,hr,tki,rft,rfc,ret0 m64,cp,hw,trim_cut,bl,bD,bP,bV,-List.all_eq_true]
    exact ih
end Go.Proofs.YtplebjehcgcdeaaGreatDoor.Bm
namespace Go.Proofs.YtplebjehcgcdeaaGreatDoor.Bm
open Go Go.RowKit
open Dw (RS Vol Ent Phs Drw numS textS numsS volsL givesL phaseS phsL readF okNums volOf formB)
theorem volsL_out:∀ (n:Nat) (s:RS) (out:List Vol),(volsL n s out).1.length≤out.length+n
 | 0,s,out=>Nat.le_refl _
 | n+1,s,out=>by
  unfold volsL
  split
  ·have:=volsL_out n (numsS s).2 (out++[volOf (numsS s).1])
   rw [List.length_append,List.length_singleton] at this
   omega
  ·simp only;omega
theorem textS_out (s:RS):(textS s).1.length≤s.1.length:=by
 unfold textS
 simp only
 have h2:=numS_len (e:=58) (least:=0) s
 split
 ·exact Nat.zero_le _
 ·split
  ·exact Nat.zero_le _
  ·rw [List.length_take];omega
theorem givesL_out {B:Nat}:∀ (n:Nat) (s:RS) (out:List Ent),s.1.length≤B→(∀ e∈out,e.1.length≤B)→(givesL n s out).1.length=out.length+n∧(∀ e∈(givesL n s out).1,e.1.length≤B)∧(givesL n s out).2.1.length≤s.1.length
 | 0,s,out,_,ho=>⟨rfl,ho,Nat.le_refl _⟩
 | n+1,s,out,hs,ho=>by
  unfold givesL
  have h1:=textS_len s
  have h2:=numS_len (e:=59) (least:=0) (textS s).2
  obtain ⟨a,b,c⟩:=givesL_out (B:=B) n (numS 59 0 (textS s).2).2 (out++[((textS s).1,(numS 59 0 (textS s).2).1)]) (by omega) (by
   intro e he
   rcases List.mem_append.1 he with q | q
   ·exact ho e q
   ·rw [List.mem_singleton.1 q]
    have:=textS_out s
    simp only;omega)
  refine ⟨by rw [a,List.length_append,List.length_singleton];omega,b,by omega⟩
def OkP (B:Nat) (p:Phs):Prop:=p.vols.length≤40∧p.gives.length≤30∧∀ e∈p.gives,e.1.length≤B
theorem phase_out {B:Nat} {s:RS} (hs:s.1.length≤B):OkP B (phaseS s).1∧(phaseS s).2.2.1.length≤s.1.length:=by
 unfold phaseS
 simp only
 have h1:=numS_len (e:=59) (least:=0) s
 split
 ·exact ⟨⟨Nat.zero_le _,Nat.zero_le _,by simp⟩,h1⟩
 ·rename_i q1
  have h2:=volsL_out (numS 59 0 s).1.toNat (numS 59 0 s).2 []
  have h3:=volsL_len (numS 59 0 s).1.toNat (numS 59 0 s).2 []
  simp only [List.length_nil,Nat.zero_add] at h2
  have h4:(numS 59 0 s).1.toNat≤40:=by omega
  split
  ·have h5:=numS_len (e:=59) (least:=0) (volsL (numS 59 0 s).1.toNat (numS 59 0 s).2 []).2.2
   split
   ·exact ⟨⟨by simp only;omega,Nat.zero_le _,by simp⟩,by simp only;omega⟩
   ·rename_i q3
    obtain ⟨a,b,c⟩:=givesL_out (B:=B) (numS 59 0 (volsL (numS 59 0 s).1.toNat (numS 59 0 s).2 []).2.2).1.toNat (numS 59 0 (volsL (numS 59 0 s).1.toNat (numS 59 0 s).2 []).2.2).2 [] (by omega) (by simp)
    exact ⟨⟨by simp only;omega,by rw [a];simp only [List.length_nil];omega,b⟩,by simp only;omega⟩
  ·exact ⟨⟨by simp only;omega,Nat.zero_le _,by simp⟩,by simp only;omega⟩
def phsX:Nat→RS→List Phs→Bool × List Phs × RS
 | 0,s,out=>(true,out,s)
 | n+1,s,out=>if (phaseS s).2.1 then phsX n (phaseS s).2.2 (out++[(phaseS s).1]) else (false,out,(phaseS s).2.2)
theorem phsX_L:∀ (n:Nat) (s:RS) (out:List Phs),phsL n s out=if (phsX n s out).1 then some (phsX n s out).2 else none
 | 0,s,out=>rfl
 | n+1,s,out=>by
  unfold phsL phsX
  split
  ·exact phsX_L n _ _
  ·rfl
theorem phsX_out {B:Nat}:∀ (n:Nat) (s:RS) (out:List Phs),s.1.length≤B→(∀ p∈out,OkP B p)→(phsX n s out).2.1.length≤out.length+n∧∀ p∈(phsX n s out).2.1,OkP B p
 | 0,s,out,_,ho=>⟨Nat.le_refl _,ho⟩
 | n+1,s,out,hs,ho=>by
  unfold phsX
  obtain ⟨h1,h2⟩:=phase_out (B:=B) hs
  split
  ·obtain ⟨a,b⟩:=phsX_out (B:=B) n (phaseS s).2.2 (out++[(phaseS s).1]) (by omega) (by
    intro e he
    rcases List.mem_append.1 he with q | q
    ·exact ho e q
    ·rw [List.mem_singleton.1 q];exact h1)
   refine ⟨?_,b⟩
   rw [List.length_append,List.length_singleton] at a
   omega
  ·exact ⟨by simp only;omega,ho⟩
theorem flat_bound {B:Nat}:∀ {l:List Phs},(∀ p∈l,OkP B p)→(l.flatMap Phs.vols).length≤40 * l.length
 | [],_=>Nat.le_refl _
 | p :: r,h=>by
  rw [List.flatMap_cons,List.length_append,List.length_cons]
  have h1:=(h p (by simp)).1
  have h2:=flat_bound (l:=r) fun q hq=>h q (List.mem_cons_of_mem _ hq)
  omega
theorem open_call (l:List UInt8) (h:Heap) (lo:Nat):retCall E (L E) lo false 84 [.string ⟨⟨l⟩⟩] h=some (rdP h.length,h++[rdC tW (l,false)]):=by
 have b1:buildT (.fs ⟨[.string ⟨⟨[]⟩⟩,.bool false]⟩ ⟨[(0,1),(1,1)]⟩) #[(0,.string ⟨⟨l⟩⟩)]=some (.agg ⟨[.string ⟨⟨l⟩⟩,.bool false]⟩):=by kernel_rfl
 rw [ret2 m84,L_fn F84 rfl]
 unfold rdC rdP
 simp -implicitDefEqProofs [r84,padS,b1]
theorem done_call {h:Heap} {b lo:Nat} {s:RS} (hob:h[b]?=some (rdC tW s)):retCall E (L E) lo false 87 [rdP b] h=some (.bool (!s.2 && decide (s.1=[])),h):=by
 have l1:=rd_rest hob (sz:=some 1)
 have l2:=rd_bad hob (sz:=some 1)
 have key:L E 87 [rdP b] h lo=some (.bool (!s.2 && decide (s.1=[])),h):=by
  rw [L_fn F87 rfl]
  cases hb:s.2 with
  | true =>
   rw [hb] at l2
   simp -implicitDefEqProofs [r87,padS,rop_nilCheck,l2]
  | false =>
   rw [hb] at l2
   simp -implicitDefEqProofs [r87,padS,rop_nilCheck,l1,l2]
 rw [ret3t m87,key,Option.map_some,trim_le (Nat.le_refl _)]
abbrev nilD:AObj:=.cells tD [.int .i64 0,.slice none 0 0] 0
def DH (lot:Int) (s:RS) (ps:List Phs):Heap:=[nilD,rdC tW s,.cells tD [.int .i64 lot,phR.sl 3 ps] 0,phR.row tP ps]
theorem DH_all {lot:Int} {s:RS} {ps:List Phs}:(DH lot s ps).all (belowO (DH lot s ps).length)=true:=by
 have e1:belowO 4 (.cells tD [.int .i64 lot,phR.sl 3 ps] 0)=true:=by
  have h1:below 8 4 (phR.sl 3 ps)=true:=Rec.sl_bel (by omega)
  show ([_,_]:List Value).all (below 8 _)=true
  simp only [List.all_cons,List.all_nil,h1,bel_int,Bool.and_self]
 show ([_,_,_,_]:Heap).all (belowO 4)=true
 simp only [List.all_cons,List.all_nil,e1,Rec.row_bel,Bool.and_true]
 rfl
def resD:Option Drw→Value
 | some d=>.tuple ⟨[drV (some false) d,.int .i64 0]⟩
 | none=>.tuple ⟨[.agg ⟨[.int .i64 0,.slice none 0 0]⟩,.int .i64 2]⟩
abbrev elP:El:=⟨tP,2,48,.agg ⟨[.slice none 0 0,.slice none 0 0]⟩,⟨some true,some 2⟩⟩
theorem lit_ph (h:Heap) (p:Phs):buildSliceT (some elP) false h 1 #[(0,.agg ⟨phR.enc p⟩)]=some (lst true (phR.vals [p]),h) :=
 (build_lit' (n:=1) (l:=[(0,.agg ⟨phR.enc p⟩)]) rfl rfl (by decide) (by decide) (by decide)).trans rfl
theorem DH_app {lot:Int} {s:RS} {ps:List Phs} {X:AObj} (p:Phs) (hp:ps.length≤1000):appendT (some elP) (DH lot s ps++[X]) 0 false (phR.sl 3 ps) (lst true (phR.vals [p])) =
  some (phR.sl 3 (ps++[p]),[nilD,rdC tW s,.cells tD [.int .i64 lot,phR.sl 3 ps] 0,phR.row tP (ps++[p]),X]):=by
 have:=Rec.app (R:=phR) (m:=[p]) (lo:=0) (h:=DH lot s ps++[X]) (b:=3) (acc:=ps) (t:=tP) (u:=lst true (phR.vals [p])) (el:=elP) rfl rfl (Rec.cells_tree (R:=phR) rfl [p]) (Nat.zero_le _) (by show (ps.length+1) * 48≤2 ^ 47;omega)
 rw [this];rfl
theorem DH_st {lot:Int} {s:RS} {ps ps':List Phs} {X:AObj}:storeT (some 1) [nilD,rdC tW s,.cells tD [.int .i64 lot,phR.sl 3 ps] 0,phR.row tP ps',X] 0 (phR.sl 3 ps') (.pointer (some ⟨2,1,none⟩))=some (DH lot s ps'++[X]):=by
 have:=obj_store (h:=[nilD,rdC tW s,.cells tD [.int .i64 lot,phR.sl 3 ps] 0,phR.row tP ps',X]) (b:=2) (j:=1) (lo:=0) (t:=tD) (c:=[.int .i64 lot,phR.sl 3 ps]) (v:=phR.sl 3 ps') rfl (by simp) (Nat.zero_le _) rfl
 unfold cAt at this
 rw [this];rfl
theorem DH_ld {lot:Int} {s:RS} {ps:List Phs} {X:Heap}:loadT ⟨some false,some 1⟩ (DH lot s ps++X) (.pointer (some ⟨2,1,none⟩))=some (phR.sl 3 ps) :=
 obj_load (j:=1) (t:=tD) (c:=[.int .i64 lot,phR.sl 3 ps]) rfl rfl
theorem DH_len {lot:Int} {s:RS} {ps:List Phs}:(DH lot s ps).length=4:=rfl
theorem DH_trim {lot:Int} {s:RS} {ps:List Phs} {X:AObj} {σ:List Value} (hσ:σ.all (below 8 4)=true):trim 4 σ (DH lot s ps++[X])=DH lot s ps:=by
 rw [trim_cut (by rw [List.length_append,DH_len,List.length_singleton];decide) hσ (by rw [List.take_left' DH_len];exact DH_all),List.take_left' DH_len]
theorem bD1 {z:Int}:buildT (.fs ⟨[.int .i64 0,.slice none 0 0]⟩ ⟨[(0,1),(1,1)]⟩) #[(0,.int .i64 z)]=some (.agg ⟨[.int .i64 z,.slice none 0 0]⟩):=by kernel_rfl
theorem bD0:buildT (.fs ⟨[.int .i64 0,.slice none 0 0]⟩ ⟨[(0,1),(1,1)]⟩) #[]=some (.agg ⟨[.int .i64 0,.slice none 0 0]⟩):=by kernel_rfl
theorem DH_new {lot:Int} {s:RS} (σ:Slots):newcK E.P 0 [nilD,rdC tW s,.cells tD [.int .i64 lot,.slice none 0 0] 0] σ 1 tP (.pointer (some ⟨2,0,none⟩))=some (σ,DH lot s []):=by
 have:=newcK_cell (P:=E.P) (σ:=σ) (lo:=0) (t:=tP) (d:=1) (off:=0) (n:=1) (sp:=none) (b:=2) (g:=0) (ty:=tD) (h:=[nilD,rdC tW s,.cells tD [.int .i64 lot,.slice none 0 0] 0]) (c:=[.int .i64 lot,.slice none 0 0]) rfl rfl sPhs (Nat.zero_le _)
 rw [this];rfl
set_option maxHeartbeats 1000000 in
theorem read_pure (l:List UInt8) (hl:l.length≤100000):pureCall E.P (L E) 31 [.string ⟨⟨l⟩⟩]=some (resD (readF formB l)):=by
 have op:=fun h lo=>open_call l h lo
 have n1:=num_spec (h:=[nilD,rdC tW (l,false)]) (b:=1) (lo:=0) (s:=(l,false)) rfl (Nat.zero_le _) (by simp only;omega)
 have hl1:=numS_len (e:=59) (least:=0) (l,false)
 unfold readF
 simp only
 rw [pureCall_fn F31 rfl]
 generalize numS 59 0 (l,false)=a at *
 obtain ⟨lot,s1⟩:=a
 simp only at *
 have hge:=Dw.numS_ge (e:=59) (least:=0) (s:=s1) (Int.le_refl _)
 have hle:=numS_len (e:=59) (least:=0) s1
 have n2:=num_spec (h:=DH lot s1 []) (b:=1) (lo:=0) (s:=s1) rfl (Nat.zero_le _) (by omega)
 change _=some (_,DH lot (numS 59 0 s1).2 []) at n2
 generalize numS 59 0 s1=a at *
 obtain ⟨z,s2⟩:=a
 obtain ⟨n,rfl⟩:∃ n:Nat,z=n:=⟨z.toNat,(Int.toNat_of_nonneg hge).symm⟩
 simp only [Int.toNat_natCast] at *
 have cN:=fun σ=>DH_new (lot:=lot) (s:=s1) σ
 have st0:∀ X,storeT (some 2) (nilD :: X) 0 (.agg ⟨[.int .i64 0,.slice none 0 0]⟩) (.pointer (some ⟨0,0,none⟩))=some (nilD :: X):=fun X=>by
  have:=obj_put (h:=nilD :: X) (b:=0) (n:=2) (lo:=0) (t:=tD) (c:=[.int .i64 0,.slice none 0 0]) (d:=[.int .i64 0,.slice none 0 0]) rfl rfl rfl (by decide) (Nat.zero_le _)
  unfold cAt at this
  rw [this];rfl
 have rz0:∀ h,reify E.P 8 h (.agg ⟨[.int .i64 0,.slice none 0 0]⟩)=some (.agg ⟨[.int .i64 0,.slice none 0 0]⟩):=fun h=>rfl
 have rz:∀ h,reifyR E.P h (.tuple ⟨[.agg ⟨[.int .i64 0,.slice none 0 0]⟩,.int .i64 2]⟩)=some (.tuple ⟨[.agg ⟨[.int .i64 0,.slice none 0 0]⟩,.int .i64 2]⟩):=fun h=>rfl
 have sD:∀ s ps,storeT (some 2) (DH lot s ps) 0 (.agg ⟨[.int .i64 0,.slice none 0 0]⟩) (.pointer (some ⟨0,0,none⟩))=some (DH lot s ps):=fun s ps=>st0 _
 have gD:∀ s ps,loadT ⟨some true,some 2⟩ (DH lot s ps) (.pointer (some ⟨0,0,none⟩))=some (.agg ⟨[.int .i64 0,.slice none 0 0]⟩):=fun s ps=>obj_all (n:=2) (t:=tD) rfl rfl
 by_cases q1:(8:Int)<n
 ·rw [if_pos q1]
  simp -implicitDefEqProofs [r31,p31,op,n1,prep_newc,bD1,bD0,cN,n2,q1,sD,gD,resD,-Int.natCast_add]
 ·rw [if_neg q1]
  have hn8:n≤8:=by omega
  rw [phsX_L]
  generalize hRH:resD _=RH
  simp -implicitDefEqProofs [r31,p31,op,n1,prep_newc,bD1,cN,n2,q1,-Int.natCast_add]
  rw [LL_rec (α:=RS × Nat × List Phs) (s2,0,[]) (fun a=>[(20,.int .i64 (a.2.1:Int))]) (fun a=>DH lot a.1 a.2.2)
   (fun a=>if (phsX (n-a.2.1) a.1 a.2.2).1 then (.exit 0,[(20,undef)],DH lot (phsX (n-a.2.1) a.1 a.2.2).2.2 (phsX (n-a.2.1) a.1 a.2.2).2.1)
    else (.ret,[(3,.int .i64 2),(20,undef)],DH lot (phsX (n-a.2.1) a.1 a.2.2).2.2 (phsX (n-a.2.1) a.1 a.2.2).2.1))
   (fun a=>a.1.1.length≤100000∧a.2.1≤n∧a.2.2.length=a.2.1) (fun a=>n-a.2.1) ⟨by simp only;omega,Nat.zero_le _,rfl⟩]
  ·rw [Nat.sub_zero]
   simp only
   obtain ⟨hA,hB⟩:=phsX_out (B:=100000) n s2 [] (by omega) (by simp)
   generalize phsX n s2 []=q at *
   obtain ⟨ok,ps,s5⟩:=q
   simp only [List.length_nil,Nat.zero_add] at hA hB ⊢
   cases ok with
   | false =>
    have hRH:resD none=RH:=hRH
    rw [← hRH]
    simp -implicitDefEqProofs [k31_7,gD,resD]
   | true =>
    have dn:=done_call (h:=DH lot s5 ps) (b:=1) (lo:=0) (s:=s5) rfl
    have lf:loadT ⟨some true,some 2⟩ (DH lot s5 ps) (.pointer (some ⟨2,0,none⟩))=some (.agg ⟨[.int .i64 lot,phR.sl 3 ps]⟩):=obj_all (n:=2) (t:=tD) rfl rfl
    have rfD:∀ X,reify E.P 8 (X :: rdC tW s5 :: .cells tD [.int .i64 lot,phR.sl 3 ps] 0 :: [phR.row tP ps]) (.agg ⟨[.int .i64 lot,phR.sl 3 ps]⟩)=some (drV (some false) ⟨lot,ps⟩):=fun X=>by
     have r1:reify E.P 7 (X :: rdC tW s5 :: .cells tD [.int .i64 lot,phR.sl 3 ps] 0 :: [phR.row tP ps]) (phR.sl 3 ps)=some (lst false (phR.vals ps)):=Rec.reify_row (b:=3) (t:=tP) rfl sPhs aPhs
     rw [reify_agg,reifyC_map (by simp [Rec.sl,settled]),mapR_cons,mapR_cons,mapR_nil,r1];rfl
    have fp:=form_pure (some false) ⟨lot,ps⟩ Rec.ok_some (by simp only;omega) (by
     have:=flat_bound hB
     unfold Dw.Drw.all
     simp only;omega) (fun p hp=>by
     obtain ⟨h1,h2,h3⟩:=hB p hp
     exact ⟨by omega,fun e he=>by have:=h3 e he;omega⟩)
    have hRH:resD (if ((!s5.2 && decide (s5.1=[])) && formB ⟨lot,ps⟩)=true then some ⟨lot,ps⟩ else none)=RH:=hRH
    cases hdn:(!s5.2 && decide (s5.1=[])) with
    | false =>
     rw [hdn] at dn
     rw [hdn,Bool.false_and,if_neg (by simp)] at hRH
     rw [← hRH]
     simp -implicitDefEqProofs [k31_7,dn,bD0,sD,gD,resD]
    | true =>
     rw [hdn] at dn
     have rfD1:reify E.P 8 (DH lot s5 ps) (.agg ⟨[.int .i64 lot,phR.sl 3 ps]⟩)=some (drV (some false) ⟨lot,ps⟩):=rfD _
     cases hfm:formB ⟨lot,ps⟩ with
     | false =>
      rw [hfm] at fp
      rw [hdn,hfm,Bool.and_false,if_neg (by simp)] at hRH
      rw [← hRH]
      simp -implicitDefEqProofs [k31_7,dn,lf,rfD1,-reify_agg,ret0 m21,fp,bD0,sD,gD,resD,rz0]
     | true =>
      rw [hfm] at fp
      rw [hdn,hfm,Bool.and_self,if_pos rfl] at hRH
      rw [← hRH]
      have sF:storeT (some 2) (DH lot s5 ps) 0 (.agg ⟨[.int .i64 lot,phR.sl 3 ps]⟩) (.pointer (some ⟨0,0,none⟩))=some [.cells tD [.int .i64 lot,phR.sl 3 ps] 0,rdC tW s5,.cells tD [.int .i64 lot,phR.sl 3 ps] 0,phR.row tP ps]:=by
       have:=obj_put (h:=DH lot s5 ps) (b:=0) (n:=2) (lo:=0) (t:=tD) (c:=[.int .i64 0,.slice none 0 0]) (d:=[.int .i64 lot,phR.sl 3 ps]) rfl rfl rfl (by decide) (Nat.zero_le _)
       unfold cAt at this
       rw [this];rfl
      have gF:loadT ⟨some true,some 2⟩ [.cells tD [.int .i64 lot,phR.sl 3 ps] 0,rdC tW s5,.cells tD [.int .i64 lot,phR.sl 3 ps] 0,phR.row tP ps] (.pointer (some ⟨0,0,none⟩))=some (.agg ⟨[.int .i64 lot,phR.sl 3 ps]⟩):=obj_all (n:=2) (t:=tD) rfl rfl
      have rR:=rfD (.cells tD [.int .i64 lot,phR.sl 3 ps] 0)
      generalize phR.sl 3 ps=SL at *
      generalize hDV:drV (some false) ⟨lot,ps⟩=DV at *
      simp -implicitDefEqProofs [k31_7,dn,lf,rfD1,-reify_agg,ret0 m21,fp,sF,gF,rR,resD,hDV]
  ·simp -implicitDefEqProofs [k31_7]
  ·rfl
  ·rintro nx ⟨s3,i,ps⟩ ⟨hi1,hi2,hi3⟩ ih
   simp only at hi1 hi2 hi3
   by_cases hi:i<n
   ·have hii:((i:Nat):Int)<(n:Int):=by omega
    have ph:=phase_spec (h:=DH lot s3 ps) (b:=1) (lo:=0) (s:=s3) rfl (Nat.zero_le _) hi1 DH_all
    change _=some (_,DH lot (phaseS s3).2.2 ps) at ph
    have hpl:=(phase_out (Nat.le_refl s3.1.length)).2
    have eR:phsX (n-i) s3 ps=if (phaseS s3).2.1 then phsX (n-(i+1)) (phaseS s3).2.2 (ps++[(phaseS s3).1]) else (false,ps,(phaseS s3).2.2):=by
     rw [show n-i=(n-(i+1))+1 by omega];rfl
    rw [eR]
    generalize phaseS s3=a at *
    obtain ⟨p,ok,s4⟩:=a
    simp only at *
    have w1:IntKind.i64.wrap ((i:Int)+1)=((i+1:Nat):Int):=wrap64 (by omega) (by omega)
    have stP:=snoc_put (g:=DH lot s4 ps) (lo:=0) (t:=tP) (n:=2) (c:=[.slice none 0 0,.slice none 0 0]) (d:=phR.enc p) rfl rfl (by decide) (Nat.zero_le _)
    have ldP:=snoc_all (g:=DH lot s4 ps) (t:=tP) (n:=2) (c:=phR.enc p) rfl
    rw [DH_len] at stP ldP
    have ld:=DH_ld (lot:=lot) (s:=s4) (ps:=ps) (X:=[.cells tP (phR.enc p) 0])
    have li:=fun h=>lit_ph h p
    have ap:=DH_app (lot:=lot) (s:=s4) (ps:=ps) (X:=.cells tP (phR.enc p) 0) p (by omega)
    have sE:=DH_st (lot:=lot) (s:=s4) (ps:=ps) (ps':=ps++[p]) (X:=.cells tP (phR.enc p) 0)
    have tr:=fun ps' σ hσ=>DH_trim (lot:=lot) (s:=s4) (ps:=ps') (X:=.cells tP (phR.enc p) 0) (σ:=σ) hσ
    cases ok with
    | true =>
     have ih:=ih (s4,i+1,ps++[p]) (by simp only;omega) ⟨by simp only;omega,by simp only;omega,by simp [hi3]⟩
     simp only [if_true]
     generalize phsX (n-(i+1)) s4 (ps++[p])=q at *
     generalize phR.enc p=LP at *
     simp -implicitDefEqProofs [k31_7,-Int.natCast_add] at ih
     simp -implicitDefEqProofs [r31_7,k31_7,hii,ph,DH_len,stP,ldP,ld,li,ap,sE,tr,w1,-Int.natCast_add,-List.all_eq_true]
     exact ih
    | false =>
     generalize phR.enc p=LP at *
     have sD2:∀ X,storeT (some 2) (DH lot s4 ps++X) 0 (.agg ⟨[.int .i64 0,.slice none 0 0]⟩) (.pointer (some ⟨0,0,none⟩))=some (DH lot s4 ps++X):=fun X=>st0 _
     simp -implicitDefEqProofs [r31_7,k31_7,hii,ph,DH_len,stP,bD0,sD2,tr,-Int.natCast_add,-List.all_eq_true]
   ·have e0:n-i=0:=by omega
    have hii:¬ ((i:Nat):Int)<(n:Int):=by omega
    rw [e0]
    simp -implicitDefEqProofs [r31_7,k31_7,hii,phsX,trim_le,-Int.natCast_add]
end Go.Proofs.YtplebjehcgcdeaaGreatDoor.Bm
namespace Go.Proofs.YtplebjehcgcdeaaGreatDoor.Bm
open Go Go.RowKit
open Dw (encI encN encT encL)
abbrev tB:TypeId:=96
abbrev tU8:TypeId:=5
def u8E:Enc UInt8:=⟨fun c=>.int .u8 c.toNat,fun _=>rfl,fun _ _=>rfl,fun _ _ _=>rfl,fun _ _=>rfl⟩
theorem sU8:szOf E.P tU8=some 1:=by kernel_rfl
theorem mCp:E.mode 116=2:=by kernel_rfl
theorem mBs:E.mode 52=2:=by kernel_rfl
theorem set_same {h:Heap} {b:Nat} {o:AObj} (hob:h[b]?=some o):h.set b o=h:=by
 apply List.ext_getElem?
 intro i
 rw [List.getElem?_set]
 by_cases e:b=i
 ·subst e
  rw [if_pos rfl,if_pos (ob_lt hob),hob]
 ·rw [if_neg e]
def bdC (b r:Nat) (u:Bool) (l:List UInt8):AObj:=.cells tB [if u then .pointer (some ⟨b,0,none⟩) else .pointer none,Enc.sl r l] 0
theorem cpc_call {h:Heap} {b r lo:Nat} {u:Bool} {l:List UInt8} (hob:h[b]?=some (bdC b r u l)) (hlo:lo≤b):retCall E (L E) lo false 116 [rdP b] h=some (.tuple #[],h.set b (bdC b r true l)):=by
 rw [ret2 mCp,L_orc (g:=cpcG tB) rfl]
 unfold cpcG
 simp only [hob]
 cases u with
 | true =>
  have e:h.set b (bdC b r true l)=h:=set_same hob
  rw [e]
  unfold bdC
  simp [plainA,hlo]
 | false =>
  unfold bdC
  simp [plainA,hlo]
theorem write_call {h:Heap} {b r lo:Nat} {u:Bool} {l s:List UInt8} (hob:h[b]?=some (bdC b r u l)) (hor:h[r]?=some (u8E.row tU8 l)) (hbr:b≠r) (hlo:lo≤b) (hlr:lo≤r) (hl:l.length+s.length≤1000000) :
  retCall E (L E) lo false 48 [rdP b,.string ⟨⟨s⟩⟩] h=some (.tuple #[.int .i64 s.length,.nilIface],(h.set b (bdC b r true (l++s))).set r (u8E.row tU8 (l++s))):=by
 have cp:=cpc_call hob hlo
 have hb:=ob_lt hob
 have hr:=ob_lt hor
 have h1:(h.set b (bdC b r true l))[b]?=some (bdC b r true l):=List.getElem?_set_self hb
 have h2:(h.set b (bdC b r true l))[r]?=some (u8E.row tU8 l):=by rw [List.getElem?_set_ne hbr];exact hor
 have ld:loadT ⟨some false,some 1⟩ (h.set b (bdC b r true l)) (.pointer (some ⟨b,1,none⟩))=some (Enc.sl r l):=obj_load (j:=1) h1 rfl
 have ap:appendT (some ⟨tU8,1,1,.int .u8 0,⟨some false,some 1⟩⟩) (h.set b (bdC b r true l)) lo false (Enc.sl r l) (lst true (bytesV ⟨⟨s⟩⟩))=some (Enc.sl r (l++s),(h.set b (bdC b r true l)).set r (u8E.row tU8 (l++s))) :=
  Enc.app (O:=u8E) (m:=s) rfl h2 (Enc.cells_tree (O:=u8E) (x:=true) (l:=s)) hlr (by show (l.length+s.length) * 1≤2 ^ 47;omega)
 have h3:((h.set b (bdC b r true l)).set r (u8E.row tU8 (l++s)))[b]?=some (bdC b r true l):=by rw [List.getElem?_set_ne (Ne.symm hbr)];exact h1
 have st:storeT (some 1) ((h.set b (bdC b r true l)).set r (u8E.row tU8 (l++s))) lo (Enc.sl r (l++s)) (.pointer (some ⟨b,1,none⟩))=some ((h.set b (bdC b r true (l++s))).set r (u8E.row tU8 (l++s))):=by
  have:=obj_store (j:=1) (lo:=lo) (v:=Enc.sl r (l++s)) h3 (by simp) hlo rfl
  unfold cAt at this
  rw [this,List.set_comm _ _ (Ne.symm hbr),List.set_set];rfl
 rw [ret2 m48,L_fn F48 rfl]
 simp -implicitDefEqProofs [r48,padS,cp,rop_nilCheck,ld,append_str,ap,st,str_size,flat_nilI]
theorem string_call {h:Heap} {b r lo:Nat} {u:Bool} {l:List UInt8} (hob:h[b]?=some (bdC b r u l)) (hor:h[r]?=some (u8E.row tU8 l)) (hlr:lo≤r) (h0:l≠[]) (hl:l.length≤1000000) :
  retCall E (L E) lo false 52 [rdP b] h=some (.string ⟨⟨l⟩⟩,h.set r .dead):=by
 rw [ret2 mBs,L_orc (g:=bstG tB tU8) rfl]
 have hn:l.length≠0:=fun e=>h0 (List.eq_nil_of_length_eq_zero e)
 have e1:bytesL (u8E.vals l)=some l:=bytesL_row ⟨⟨l⟩⟩
 have e2:rdN h ⟨r,0,some l.length⟩ l.length=some (u8E.vals l):=by
  unfold rdN
  rw [Enc.row_of hor rfl,Option.bind_some]
  show (if 0+l.length≤(u8E.vals l).length then some (((u8E.vals l).drop 0).take l.length) else none)=_
  rw [Enc.vals_len,if_pos (by omega),List.drop_zero,List.take_of_length_le (by rw [Enc.vals_len];exact Nat.le_refl _)]
 have hor':h[r]?=some (.cells tU8 (u8E.vals l) (0+1)):=hor
 have c1:(tB == tB && plainA { block:=b,off:=0,spot:=none } && l.length != 0 && decide (l.length≤9223372036854775807) && 0 == 0 && decide (lo≤r))=true:=by
  have h63:l.length≤9223372036854775807:=by omega
  simp [plainA,hn,h63,hlr]
 unfold bstG bdC Enc.sl at *
 simp only [hob,hor']
 rw [if_pos c1,if_pos (by simp),e2,Option.bind_some,e1];rfl
theorem int_pure {n:Int} (hn:Dw.inR n):pureCall E.P (L E) 117 [.int .i64 n]=some (.string ⟨⟨encI n⟩⟩):=by
 have it:=ito_pure hn
 have hl:=Dw.ito_len hn
 have ad:=sv_add (P:=E.P) (t:=9) (a:=Bm.itoL n) (b:=[59]) (by simp only [List.length_singleton];change (Bm.itoL n).length≤20 at hl;omega)
 have e:encI n=Bm.itoL n++[59]:=rfl
 rw [pureCall_fn F117 rfl,e]
 generalize Bm.itoL n=l at *
 simp -implicitDefEqProofs [r117,padS,ret0 mIt,it,ad]
theorem num_pure {n:Int} (hn:Dw.inR n):pureCall E.P (L E) 49 [.int .i64 n]=some (.string ⟨⟨encN n⟩⟩):=by
 have ip:=int_pure hn
 unfold encN
 rw [pureCall_fn F49 rfl]
 by_cases h:n<0
 ·rw [if_pos h]
  simp -implicitDefEqProofs [r49,padS,h]
 ·rw [if_neg h]
  simp -implicitDefEqProofs [r49,padS,h,ret0 m117,ip]
theorem text_pure {t:List UInt8} (ht:t.length≤1000000):pureCall E.P (L E) 51 [.string ⟨⟨t⟩⟩]=some (.string ⟨⟨encT t⟩⟩):=by
 have hn:Dw.inR (t.length:Int):=⟨by omega,by omega⟩
 have it:=ito_pure hn
 have hl:(Bm.itoL t.length).length≤20:=Dw.ito_len hn
 have a1:=sv_add (P:=E.P) (t:=9) (a:=Bm.itoL t.length) (b:=[58]) (by simp only [List.length_singleton];omega)
 have a2:=sv_add (P:=E.P) (t:=9) (a:=Bm.itoL t.length++[58]) (b:=t) (by simp only [List.length_append,List.length_singleton];omega)
 have a3:=sv_add (P:=E.P) (t:=9) (a:=Bm.itoL t.length++[58]++t) (b:=[44]) (by simp only [List.length_append,List.length_singleton];omega)
 have e:encT t=Bm.itoL t.length++[58]++t++[44]:=by unfold encT;simp
 rw [pureCall_fn F51 rfl,e]
 generalize Bm.itoL t.length=l at *
 simp -implicitDefEqProofs [r51,padS,ret0 mIt,str_size,it,a1,a2,a3,-List.append_assoc]
end Go.Proofs.YtplebjehcgcdeaaGreatDoor.Bm
namespace Go.Proofs.YtplebjehcgcdeaaGreatDoor.Bm
open Go Go.RowKit
open Dw (encI encN encT encL)
theorem atom_ptr0:atom (.pointer none)=true:=rfl
theorem encI_len {n:Int} (h:Dw.inR n):(encI n).length≤21:=by
 have:=Dw.ito_len h
 unfold encI
 rw [List.length_append,List.length_singleton];omega
theorem encIs_len:∀ {l:List Int},(∀ n∈l,Dw.inR n)→(l.flatMap encI).length≤21 * l.length
 | [],_=>Nat.le_refl _
 | n :: l,h=>by
  rw [List.flatMap_cons,List.length_append,List.length_cons]
  have h1:=encI_len (h n (by simp))
  have h2:=encIs_len (l:=l) fun m hm=>h m (List.mem_cons_of_mem _ hm)
  omega
theorem bd_new {r:Nat} (σ:Slots) (X:Heap) (hr:X.length=r):newcK E.P 0 (X++[.cells tB [.pointer none,.slice none 0 0] 0]) σ 1 tU8 (.pointer (some ⟨r,0,none⟩))=some (σ,X++[bdC r (r+1) false [],u8E.row tU8 []]):=by
 subst hr
 have ho:(X++[AObj.cells tB [.pointer none,.slice none 0 0] 0])[X.length]?=some (.cells tB [.pointer none,.slice none 0 0] 0):=by rw [List.getElem?_append_right (Nat.le_refl _),Nat.sub_self];rfl
 have:=newcK_cell (P:=E.P) (σ:=σ) (lo:=0) (t:=tU8) (d:=1) (off:=0) (n:=0) (sp:=none) ho rfl sU8 (Nat.zero_le _)
 rw [this,List.set_append_right _ _ (Nat.le_refl _),Nat.sub_self,List.append_assoc,List.length_append];rfl
def LH (c:List UInt8):Heap:=[bdC 0 1 true c,u8E.row tU8 c]
theorem LH_write {c s:List UInt8} (hl:c.length+s.length≤1000000):retCall E (L E) 0 false 48 [rdP 0,.string ⟨⟨s⟩⟩] (LH c)=some (.tuple #[.int .i64 s.length,.nilIface],LH (c++s)) :=
 write_call (b:=0) (r:=1) (u:=true) rfl rfl (by decide) (Nat.zero_le _) (Nat.zero_le _) hl
theorem list_pure {x:Bool} {l:List Int} (h:∀ n∈l,Dw.inR n) (hl:l.length≤10000):pureCall E.P (L E) 118 [lst x (intE.vals l),.func (.func 117) #[] #[]]=some (.string ⟨⟨encL l⟩⟩):=by
 have hn:Dw.inR (l.length:Int):=⟨by omega,by omega⟩
 have it:=ito_pure hn
 have hil:(Bm.itoL l.length).length≤20:=Dw.ito_len hn
 have a1:=sv_add (P:=E.P) (t:=9) (a:=Bm.itoL l.length) (b:=[91]) (by simp only [List.length_singleton];omega)
 have ll:∀ h,lenT .sl h (lst x (intE.vals l))=some (.int .i64 l.length):=fun h=>by rw [len_lst,Enc.vals_len]
 have ix:=fun (i:Nat) (hi:i<l.length)=>Enc.index_tree (O:=intE) (x:=x) (t:=3) (k:=.i64) hi
 have cN:=fun σ=>bd_new (r:=0) σ [] rfl
 have w1:retCall E (L E) 0 false 48 [rdP 0,.string ⟨⟨Bm.itoL l.length++[91]⟩⟩] [bdC 0 1 false [],u8E.row tU8 []]=some (.tuple #[.int .i64 (Bm.itoL l.length++[91]).length,.nilIface],LH (Bm.itoL l.length++[91])) :=
  write_call (b:=0) (r:=1) (u:=false) (l:=[]) rfl rfl (by decide) (Nat.zero_le _) (Nat.zero_le _) (by simp only [List.length_append,List.length_nil,List.length_singleton];omega)
 have hT:=encIs_len h
 have eL:encL l=Bm.itoL l.length++[91]++l.flatMap encI++[93]:=by unfold encL;simp
 rw [pureCall_fn F118 rfl,eL]
 generalize hI:Bm.itoL l.length++[91]=c0 at *
 have hc0:c0.length≤21:=by rw [← hI];simp only [List.length_append,List.length_singleton];omega
 have hc1:c0≠[]:=by rw [← hI];simp
 simp only [List.nil_append] at cN
 generalize Bm.itoL l.length=cI at *
 generalize lst x (intE.vals l)=VL at *
 simp -implicitDefEqProofs [r118,p118,prep_newc,cN,ll,ret0 mIt,it,a1,w1,atom_ptr0,-List.append_assoc]
 rw [LL_for (γ:=List UInt8) l c0 (fun i _=>[(15,.int .i64 (i:Int))]) (fun _ c=>LH c) (fun _ rest c=>(.exit 0,[(15,undef)],LH (c++rest.flatMap encI))) (fun i c=>c.length+((l.drop i).flatMap encI).length≤300000) (by omega) (by rw [List.drop_zero];omega)]
 ·have sc:=string_call (h:=LH (c0++l.flatMap encI)) (b:=0) (r:=1) (lo:=0) (u:=true) rfl rfl (Nat.zero_le _) (by simp [hc1]) (by rw [List.length_append];omega)
  have a3:=sv_add (P:=E.P) (t:=9) (a:=c0++l.flatMap encI) (b:=[93]) (by simp only [List.length_append,List.length_singleton];omega)
  generalize c0++l.flatMap encI=S at *
  simp -implicitDefEqProofs [k118_4,sc,a3]
 ·simp -implicitDefEqProofs [k118_4]
 ·rfl
 ·intro nx i c hi _
  simp -implicitDefEqProofs [r118_4,k118_4,hi,trim_le]
 ·intro nx i z rest c hi hv hd hw hinv ih
  rw [hd,List.flatMap_cons,List.length_append] at hinv
  have hd2:l.drop (i+1)=rest:=by
   have:=congrArg List.tail hd
   simpa [List.tail_drop] using this
  have xi:=ix i hi
  rw [hv] at xi
  have ip:=int_pure (h z (by rw [← hv];exact List.getElem_mem hi))
  have wr:=LH_write (c:=c) (s:=encI z) (by omega)
  have ih:=ih (c++encI z) (by rw [hd2,List.length_append];omega)
  have le:∀ h,loadT ⟨some false,some 1⟩ h (cptr (intE.e z))=some (.int .i64 z):=fun h=>rfl
  rw [List.flatMap_cons,← List.append_assoc]
  generalize encI z=ez at *
  generalize intE.e z=vz at *
  have lenL:∀ c,(LH c).length=2:=fun c=>rfl
  simp -implicitDefEqProofs [k118_4,-List.append_assoc] at ih
  simp -implicitDefEqProofs [r118_4,k118_4,hi,xi,le,ret0 m117,ip,wr,hw,lenL,trim_le,-List.append_assoc]
  exact ih
theorem nums_pure {x:Bool} {l:List Int} (h:∀ n∈l,Dw.inR n) (hl:l.length≤10000):pureCall E.P (L E) 50 [lst x (intE.vals l)]=some (.string ⟨⟨encL l⟩⟩):=by
 have lp:=list_pure (x:=x) h hl
 have rl:∀ h,reify E.P 8 h (lst x (intE.vals l))=some (lst x (intE.vals l)):=fun h=>rfl
 rw [pureCall_fn F50 rfl]
 generalize lst x (intE.vals l)=VL at *
 simp -implicitDefEqProofs [r50,padS,rl,ret0 m118,lp]
end Go.Proofs.YtplebjehcgcdeaaGreatDoor.Bm
namespace Go.Proofs.YtplebjehcgcdeaaGreatDoor.Bm
open Go Go.RowKit
open Dw (Vol Ent Phs Drw encI encN encT encL encV encE encP formB rightV)
theorem encN_len {n:Int} (h:Dw.inR n):(encN n).length≤21:=by
 unfold encN
 split
 ·exact Nat.zero_le _
 ·exact encI_len h
theorem encV_len {v:Vol} (h:v.inR):(encV v).length≤220:=by
 have h1:=encIs_len h
 have h2:v.nums.length=9:=by unfold Dw.Vol.nums;rfl
 have h3:(Bm.itoL v.nums.length).length≤20:=Dw.ito_len ⟨by omega,by omega⟩
 unfold encV encL
 simp only [List.length_append,List.length_cons,List.length_nil]
 change (Dw.itoL v.nums.length).length≤20 at h3
 omega
theorem encE_len {e:Ent} (h:e.1.length≤20) (hn:Dw.inR e.2):(encE e).length≤63:=by
 have h1:=encN_len hn
 have h3:(Bm.itoL e.1.length).length≤20:=Dw.ito_len ⟨by omega,by omega⟩
 change (Dw.itoL e.1.length).length≤20 at h3
 unfold encE encT
 simp only [List.length_append,List.length_cons,List.length_nil]
 omega
theorem flat_le {α:Type} {f:α→List UInt8} {k:Nat}:∀ {l:List α},(∀ a∈l,(f a).length≤k)→(l.flatMap f).length≤k * l.length
 | [],_=>by simp
 | a :: l,h=>by
  rw [List.flatMap_cons,List.length_append,List.length_cons,Nat.mul_add,Nat.mul_one]
  have h1:=h a (by simp)
  have h2:=flat_le (f:=f) (k:=k) (l:=l) fun b hb=>h b (List.mem_cons_of_mem _ hb)
  omega
structure PhOk (p:Phs):Prop where
 nv:p.vols.length≤40
 vs:∀ v∈p.vols,v.inR
 ng:p.gives.length≤30
 gs:∀ e∈p.gives,e.1.length≤20∧0≤e.2∧Dw.inR e.2
theorem form_ph {d:Drw} (h:formB d=true):∀ p∈d.phs,PhOk p:=by
 intro p hp
 have hf:=Dw.form_fit h
 unfold formB at h
 simp only [Bool.and_eq_true,List.all_eq_true] at h
 have h8:=h.2 p hp
 unfold Dw.phsB at h8
 rw [Bool.and_eq_true] at h8
 exact ⟨(hf.vols p hp).1,(hf.vols p hp).2,(hf.gives p hp).1,fun e he=>⟨Dw.name_len (Dw.givesB_ok _ _ h8.1 e he).1,((hf.gives p hp).2 e he).2⟩⟩
theorem encP_len {p:Phs} (h:PhOk p):(encP p).length≤10800:=by
 have h1:=encN_len (n:=p.vols.length) ⟨by omega,by have:=h.nv;omega⟩
 have h2:=encN_len (n:=p.gives.length) ⟨by omega,by have:=h.ng;omega⟩
 have h3:=flat_le (f:=encV) (k:=220) fun v hv=>encV_len (h.vs v hv)
 have h4:=flat_le (f:=encE) (k:=63) fun e he=>encE_len (h.gs e he).1 (h.gs e he).2.2
 have:=h.nv
 have:=h.ng
 unfold encP
 simp only [List.length_append]
 omega
theorem enc_len {d:Drw} (h:formB d=true):(Dw.enc d).length≤90000:=by
 have hf:=Dw.form_fit h
 have h1:=encN_len hf.lot.2
 have h2:=encN_len (n:=d.phs.length) ⟨by omega,by have:=hf.phs;omega⟩
 have h3:=flat_le (f:=encP) (k:=10800) fun p hp=>encP_len (form_ph h p hp)
 have:=hf.phs
 unfold Dw.enc
 simp only [List.length_append]
 omega
abbrev bw (c:List UInt8):AObj:=bdC 1 2 true c
abbrev rw8 (c:List UInt8):AObj:=u8E.row tU8 c
theorem BW {A:AObj} {X:Heap} {c s:List UInt8} (hl:c.length+s.length≤1000000):retCall E (L E) 0 false 48 [rdP 1,.string ⟨⟨s⟩⟩] (A :: bw c :: rw8 c :: X)=some (.tuple #[.int .i64 s.length,.nilIface],A :: bw (c++s) :: rw8 (c++s) :: X) :=
 write_call (b:=1) (r:=2) (u:=true) rfl rfl (by decide) (Nat.zero_le _) (Nat.zero_le _) hl
theorem bw_bel {n:Nat} (c:List UInt8) (hn:3≤n):belowO n (bw c)=true:=by
 have h1:below 8 n (Enc.sl 2 c)=true:=Enc.sl_bel (by omega)
 have h2:below 8 n (.pointer (some ⟨1,0,none⟩))=true:=bel_n n 1 (by omega)
 show ([_,_]:List Value).all (below 8 n)=true
 simp only [if_true,List.all_cons,List.all_nil,h1,h2,Bool.and_self]
theorem lit9 (h:Heap) (a0 a1 a2 a3 a4 a5 a6 a7 a8:Int):buildSliceT (some ⟨3,1,8,.int .i64 0,⟨some false,some 1⟩⟩) false h 9 #[(0,.int .i64 a0),(1,.int .i64 a1),(2,.int .i64 a2),(3,.int .i64 a3),(4,.int .i64 a4),(5,.int .i64 a5),(6,.int .i64 a6),(7,.int .i64 a7),(8,.int .i64 a8)]=some (lst true (intE.vals [a0,a1,a2,a3,a4,a5,a6,a7,a8]),h) :=
 (build_lit' (n:=9) (l:=[(0,.int .i64 a0),(1,.int .i64 a1),(2,.int .i64 a2),(3,.int .i64 a3),(4,.int .i64 a4),(5,.int .i64 a5),(6,.int .i64 a6),(7,.int .i64 a7),(8,.int .i64 a8)]) rfl rfl (by decide) (by decide) (by decide)).trans rfl
end Go.Proofs.YtplebjehcgcdeaaGreatDoor.Bm
