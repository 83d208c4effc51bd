/-
 More is known of some functions: what the machine did before it does still. Conditions: what was known is known.
-/
import Derived.Test.YtplebjehcgcdeaaGreatDoorQU20
import Derived.Test.YtplebjehcgcdeaaGreatDoorQU17
namespace Go.Proofs.YtplebjehcgcdeaaGreatDoor.Bm
open Go Go.RowKit
open Dw (Vol Ent Phs Drw rightRB rightV meetV)
theorem all_spec (k:Option Bool) (d:Drw) (hk:Rec.Ok k d.phs) (hp:d.phs.length≤1000000) (hv:d.all.length≤1000000) :
  pureCall E.P (L E) 59 [drV k d]=some (lst false (volR.vals d.all)):=by
 have vs:=vols_spec k d 0 d.phs.length hk hp hv
 rw [vfrom_all _ _ _ (by omega)] at vs
 have hs:settled 8 (drV k d)=true:=by
  show ([_,_]:List Value).all (settled 7)=true
  simp only [List.all_cons,List.all_nil,Bool.and_true,Bool.and_eq_true]
  exact ⟨rfl,Rec.o_set⟩
 have ll:∀ h,lenT .sl h (phR.o k d.phs)=some (.int .i64 d.phs.length):=fun h=>Rec.o_len hk
 have ld:∀ X,loadT ⟨some false,some 1⟩ (AObj.cells tD [.int .i64 d.lot,phR.o k d.phs] 0 :: X) (.pointer (some ⟨0,1,none⟩))=some (phR.o k d.phs):=fun X=>obj_load (j:=1) (t:=tD) (c:=[.int .i64 d.lot,phR.o k d.phs]) rfl rfl
 have la:∀ X,loadT ⟨some true,some 2⟩ (AObj.cells tD [.int .i64 d.lot,phR.o k d.phs] 0 :: X) (.pointer (some ⟨0,0,none⟩))=some (.agg ⟨[.int .i64 d.lot,phR.o k d.phs]⟩):=fun X=>obj_all (n:=2) (t:=tD) (c:=[.int .i64 d.lot,phR.o k d.phs]) rfl rfl
 rw [pureCall_fn F59 rfl]
 unfold Dw.Drw.all
 unfold drV at *
 generalize phR.o k d.phs=VP at *
 have rr:∀ h,reifyR E.P h (lst false (volR.vals (d.phs.flatMap Phs.vols)))=some (lst false (volR.vals (d.phs.flatMap Phs.vols))):=fun h=>rfl
 generalize lst false (volR.vals (d.phs.flatMap Phs.vols))=VR at *
 simp -implicitDefEqProofs [r59,padS,ld,la,ll,ret1s m26,hs,vs,rr]
theorem right_pure (a b c d:Int):pureCall E.P (L E) 78 [.agg ⟨[.int .i64 a,.int .i64 b,.int .i64 c,.int .i64 d]⟩]=some (.bool (rightRB a b c d)):=by
 rw [pureCall_fn F78 rfl]
 unfold rightRB
 by_cases h1:0≤a
 ·by_cases h2:a<c
  ·by_cases h3:c≤1048576
   ·by_cases h4:0≤b
    ·by_cases h5:b<d
     ·simp -implicitDefEqProofs [r78,p78,h1,h2,h3,h4,h5]
     ·simp -implicitDefEqProofs [r78,p78,h1,h2,h3,h4,h5]
    ·simp -implicitDefEqProofs [r78,p78,h1,h2,h3,h4]
   ·simp -implicitDefEqProofs [r78,p78,h1,h2,h3]
  ·simp -implicitDefEqProofs [r78,p78,h1,h2]
 ·simp -implicitDefEqProofs [r78,p78,h1]
theorem rightV_pure (v:Vol):pureCall E.P (L E) 28 [.agg ⟨volR.enc v⟩]=some (.bool (rightV v)):=by
 obtain ⟨a,b,c,d,e,f,g,u,x⟩:=v
 have hr:=right_pure a b c d
 rw [pureCall_fn F28 rfl]
 unfold rightV
 show (retK _ (evR E (L E) LL 0 _ (padS [.agg ⟨[.int .i64 a,.int .i64 b,.int .i64 c,.int .i64 d,.int .i64 e,.int .i64 f,.int .i64 g,.int .i64 u,.bool x]⟩] _) [])).bind _=_
 simp only
 cases h0:rightRB a b c d with
 | false=>simp -implicitDefEqProofs [r28,p28,ret0 m78,hr,h0]
 | true =>
  by_cases h1:0≤e
  ·have h1':¬ e<0:=by omega
   by_cases h2:e<f
   ·have h2':¬ f≤e:=by omega
    by_cases h3:f≤4096
    ·have h3':¬ 4096<f:=by omega
     by_cases h4:g=0
     ·by_cases h7:0≤u
      ·simp -implicitDefEqProofs [r28,p28,ret0 m78,hr,h0,h1,h1',h2,h2',h3,h3',h4,h7]
      ·simp -implicitDefEqProofs [r28,p28,ret0 m78,hr,h0,h1,h1',h2,h2',h3,h3',h4,h7]
     ·by_cases h5:u=0
      ·by_cases h6:0≤g
       ·by_cases h8:g<6
        ·simp -implicitDefEqProofs [r28,p28,ret0 m78,hr,h0,h1,h1',h2,h2',h3,h3',h4,h5,h6,h8]
        ·simp -implicitDefEqProofs [r28,p28,ret0 m78,hr,h0,h1,h1',h2,h2',h3,h3',h4,h5,h6,h8]
       ·simp -implicitDefEqProofs [r28,p28,ret0 m78,hr,h0,h1,h1',h2,h2',h3,h3',h4,h5,h6]
      ·simp -implicitDefEqProofs [r28,p28,ret0 m78,hr,h0,h1,h1',h2,h2',h3,h3',h4,h5]
    ·have h3':4096<f:=by omega
     simp -implicitDefEqProofs [r28,p28,ret0 m78,hr,h0,h1,h1',h2,h2',h3,h3']
   ·have h2':f≤e:=by omega
    simp -implicitDefEqProofs [r28,p28,ret0 m78,hr,h0,h1,h1',h2,h2']
  ·have h1':e<0:=by omega
   simp -implicitDefEqProofs [r28,p28,ret0 m78,hr,h0,h1,h1']
theorem bld0:buildT (.fs ⟨[.int .i64 0,.int .i64 0,.int .i64 0,.int .i64 0]⟩ ⟨[(0,1),(1,1),(2,1),(3,1)]⟩) #[]=some (.agg ⟨[.int .i64 0,.int .i64 0,.int .i64 0,.int .i64 0]⟩):=by kernel_rfl
theorem chk_pure (a b c d:Int):pureCall E.P (L E) 136 [.agg ⟨[.int .i64 a,.int .i64 b,.int .i64 c,.int .i64 d]⟩]=some (if rightRB a b c d then .tuple ⟨[.agg ⟨[.int .i64 a,.int .i64 b,.int .i64 c,.int .i64 d]⟩,.bool true]⟩ else .tuple ⟨[.agg ⟨[.int .i64 0,.int .i64 0,.int .i64 0,.int .i64 0]⟩,.bool false]⟩):=by
 have hr:=right_pure a b c d
 rw [pureCall_fn F136 rfl]
 cases h0:rightRB a b c d with
 | false=>simp -implicitDefEqProofs [r136,padS,ret0 m78,hr,h0,bld0]
 | true=>simp -implicitDefEqProofs [r136,padS,ret0 m78,hr,h0]
theorem mm_max (x y:Int):aMinMax true [.int .i64 x,.int .i64 y]=some (.int .i64 (max x y)):=by
 show some (Value.int .i64 (if y > x then y else x))=_
 rw [show (if y > x then y else x)=max x y by split <;> omega]
theorem mm_min (x y:Int):aMinMax false [.int .i64 x,.int .i64 y]=some (.int .i64 (min x y)):=by
 show some (Value.int .i64 (if y<x then y else x))=_
 rw [show (if y<x then y else x)=min x y by split <;> omega]
theorem inter_pure (a b c d p q u v:Int) (h1:rightRB a b c d=true) (h2:rightRB p q u v=true):∃ r,pureCall E.P (L E) 131 [.agg ⟨[.int .i64 a,.int .i64 b,.int .i64 c,.int .i64 d]⟩,.agg ⟨[.int .i64 p,.int .i64 q,.int .i64 u,.int .i64 v]⟩]=some (.tuple ⟨[.agg ⟨r⟩,.bool (decide (max a p<min c u) && decide (max b q<min d v))]⟩)∧r.length=4∧flat (.agg ⟨r⟩)=true:=by
 have r1:=right_pure a b c d
 have r2:=right_pure p q u v
 have ck:=chk_pure (max a p) (max b q) (min c u) (min d v)
 have hR:rightRB (max a p) (max b q) (min c u) (min d v)=(decide (max a p<min c u) && decide (max b q<min d v)):=by
  unfold rightRB at *
  simp only [Bool.and_eq_true,decide_eq_true_eq] at h1 h2
  rw [Bool.eq_iff_iff]
  simp only [Bool.and_eq_true,decide_eq_true_eq]
  omega
 rw [hR] at ck
 have m1:=mm_max a p
 have m2:=mm_max b q
 have m3:=mm_min c u
 have m4:=mm_min d v
 rw [pureCall_fn F131 rfl]
 cases hc:(decide (max a p<min c u) && decide (max b q<min d v)) with
 | true =>
  rw [hc,if_pos rfl] at ck
  refine ⟨[.int .i64 (max a p),.int .i64 (max b q),.int .i64 (min c u),.int .i64 (min d v)],?_,rfl,by simp⟩
  simp -implicitDefEqProofs [r131,p131,ret0 m78,r1,r2,h1,h2,m1,m2,m3,m4,ret0 m136,ck,bld4]
 | false =>
  rw [hc,if_neg (by simp)] at ck
  refine ⟨[.int .i64 0,.int .i64 0,.int .i64 0,.int .i64 0],?_,rfl,by simp⟩
  simp -implicitDefEqProofs [r131,p131,ret0 m78,r1,r2,h1,h2,m1,m2,m3,m4,ret0 m136,ck,bld4]
def bxL (v:Vol):List Value:=[.int .i64 v.x0,.int .i64 v.y0,.int .i64 v.x1,.int .i64 v.y1,.int .i64 v.z0,.int .i64 v.z1]
theorem meet_pure (v w:Vol) (h1:rightV v=true) (h2:rightV w=true):pureCall E.P (L E) 66 [.agg ⟨bxL v⟩,.agg ⟨bxL w⟩]=some (.bool (meetV v w)):=by
 obtain ⟨a,b,c,d,e,f,g,u,x⟩:=v
 obtain ⟨a2,b2,c2,d2,e2,f2,g2,u2,x2⟩:=w
 have q1:rightRB a b c d=true:=by unfold rightV at h1;simp only [Bool.and_eq_true] at h1;exact h1.1.1.1.1.1.1.1.1
 have q2:rightRB a2 b2 c2 d2=true:=by unfold rightV at h2;simp only [Bool.and_eq_true] at h2;exact h2.1.1.1.1.1.1.1.1
 obtain ⟨r,hi,hr,hs⟩:=inter_pure a b c d a2 b2 c2 d2 q1 q2
 clear h1 h2
 rw [pureCall_fn F66 rfl]
 unfold meetV bxL
 simp only
 generalize (decide (max a a2<min c c2) && decide (max b b2<min d d2))=z at *
 have sc:scalar (.tuple ⟨[.agg ⟨r⟩,.bool z]⟩)=true:=by
  unfold scalar
  simp [hs,flat_bool]
 have st:∀ (A B:AObj),storeT (some 4) [A,B,.cells 56 [.int .i64 0,.int .i64 0,.int .i64 0,.int .i64 0] 0] 0 (.agg ⟨r⟩) (.pointer (some ⟨2,0,none⟩))=some [A,B,.cells 56 r 0]:=fun A B=>snoc_put (g:=[A,B]) rfl hr (by decide) (Nat.zero_le _)
 cases z with
 | false=>simp -implicitDefEqProofs [r66,p66,ret0 m131,hi,sc,st]
 | true =>
  by_cases k1:e<f2
  ·simp -implicitDefEqProofs [r66,p66,ret0 m131,hi,sc,st,k1]
  ·simp -implicitDefEqProofs [r66,p66,ret0 m131,hi,sc,st,k1]
end Go.Proofs.YtplebjehcgcdeaaGreatDoor.Bm
namespace Go.Proofs.YtplebjehcgcdeaaGreatDoor.Bm
open Go Go.RowKit
open Dw (Vol Ent Phs Drw rightRB rightV meetV)
def clV (v:Vol):Value:=.func (.func 65) ⟨[]⟩ ⟨[cptr (.agg ⟨volR.enc v⟩)]⟩
theorem form1_pure (v w:Vol) (h1:rightV v=true) (h2:rightV w=true):pureCall E.P (L E) 65 [.agg ⟨volR.enc w⟩,cptr (.agg ⟨volR.enc v⟩)]=some (.bool (meetV v w)):=by
 have hm:=meet_pure v w h1 h2
 rw [pureCall_fn F65 rfl]
 have e1:fieldAddrT ⟨some true,some 9⟩ (some (0,⟨some true,some 6⟩)) (cptr (.agg ⟨volR.enc v⟩))=some (cptr (.agg ⟨bxL v⟩)):=rfl
 have e2:∀ h,loadT ⟨some true,some 6⟩ h (cptr (.agg ⟨bxL v⟩))=some (.agg ⟨bxL v⟩):=fun h=>rfl
 have e3:aBox [] tV (.agg ⟨volR.enc w⟩)=some (.pointer (some ⟨0,0,none⟩),[.cells tV (volR.enc w) 0]):=rfl
 have e4:fieldAddrT ⟨some true,some 9⟩ (some (0,⟨some true,some 6⟩)) (.pointer (some ⟨0,0,none⟩))=some (.pointer (some ⟨0,0,none⟩)):=rfl
 have e5:loadT ⟨some true,some 6⟩ [.cells tV (volR.enc w) 0] (.pointer (some ⟨0,0,none⟩))=some (.agg ⟨bxL w⟩):=rfl
 have rv:∀ h,reify E.P 8 h (.agg ⟨bxL v⟩)=some (.agg ⟨bxL v⟩):=fun h=>rfl
 have rw_:∀ h,reify E.P 8 h (.agg ⟨bxL w⟩)=some (.agg ⟨bxL w⟩):=fun h=>rfl
 generalize volR.enc v=LV at *
 generalize volR.enc w=LW at *
 generalize bxL v=BV at *
 generalize bxL w=BW at *
 simp -implicitDefEqProofs [r65,padS,e1,e2,e4,e5,rv,rw_,ret0 m66,hm]
def fidx (p:Vol→Bool):Nat→List Vol→Int
 | _,[]=>-1
 | i,w :: r=>if p w then i else fidx p (i+1) r
theorem fidx_any {p:Vol→Bool}:∀ {l:List Vol} {i:Nat},0≤fidx p i l↔l.any p=true
 | [],i=>by simp [fidx]
 | w :: r,i=>by
  unfold fidx
  rw [List.any_cons]
  cases h:p w with
  | true=>simp
  | false=>simpa using fidx_any (p:=p) (l:=r) (i:=i+1)
theorem fidx_none {p:Vol→Bool}:∀ {l:List Vol} {i:Nat},l.any p=false→fidx p i l = -1
 | [],i,_=>rfl
 | w :: r,i,h=>by
  rw [List.any_cons,Bool.or_eq_false_iff] at h
  unfold fidx
  rw [h.1]
  exact fidx_none h.2
theorem index_pure (pre:List Vol) (x:Bool) (v:Vol) (h1:rightV v=true) (h2:∀ w∈pre,rightV w=true) (hl:pre.length≤1000000) :
  pureCall E.P (L E) 130 [lst x (volR.vals pre),clV v]=some (.int .i64 (fidx (meetV v) 0 pre)):=by
 have ll:∀ h,lenT .sl h (lst x (volR.vals pre))=some (.int .i64 pre.length):=fun h=>Rec.tree_len
 have ix:=fun (i:Nat) (hi:i<pre.length)=>Rec.index_tree (R:=volR) (h0:=9) (x:=x) (t:=tV) (k:=.i64) rfl hi
 have fm:=fun w (hw:w∈pre)=>form1_pure v w h1 (h2 w hw)
 have fit:∀ w:Vol,fitsTT ⟨some true,some 9⟩ (.agg ⟨volR.enc w⟩)=true:=fun w=>rfl
 have rf:∀ (w:Vol) h,reify E.P 8 h (.agg ⟨volR.enc w⟩)=some (.agg ⟨volR.enc w⟩):=fun w h=>rfl
 have rc:∀ (w:Vol) h,reify E.P 8 h (cptr (.agg ⟨volR.enc w⟩))=some (cptr (.agg ⟨volR.enc w⟩)):=fun w h=>rfl
 rw [pureCall_fn F130 rfl]
 generalize lst x (volR.vals pre)=VP at *
 unfold clV
 simp -implicitDefEqProofs [r130,p130,ll]
 rw [LL_for (γ:=Unit) pre () (fun i _=>[(8,.int .i64 (i:Int))]) (fun _ _=>[]) (fun i rest _=>if rest.any (meetV v) then (.ret,[(4,.int .i64 (fidx (meetV v) i rest)),(8,undef)],[]) else (.exit 0,[(8,undef)],[])) (fun _ _=>True) (by omega) trivial]
 ·cases ha:pre.any (meetV v) with
  | true=>simp -implicitDefEqProofs [k130_2]
  | false =>
   have e:=fidx_none (i:=0) ha
   simp -implicitDefEqProofs [k130_2,e]
 ·simp -implicitDefEqProofs [k130_2]
 ·rfl
 ·intro nx i c hi _
  simp -implicitDefEqProofs [r130_2,k130_2,hi,trim_le]
 ·intro nx i w rest u hi hv hd hw _ ih
  have ih:=ih () trivial
  have xi:=ix i hi
  rw [hv] at xi
  change _=some (cptr (.agg ⟨volR.enc w⟩)) at xi
  have mw:=fm w (by rw [← hv];exact List.getElem_mem hi)
  have ftw:=fit w
  have rfw:=rf w
  have rcv:=rc v
  rw [List.any_cons]
  unfold fidx
  generalize volR.enc w=LW at *
  generalize volR.enc v=LV at *
  cases hmw:meetV v w with
  | true =>
   rw [hmw] at mw
   simp -implicitDefEqProofs [r130_2,k130_2,hi,xi,ftw,rfw,rcv,ret0 m65,mw,trim_le]
  | false =>
   rw [hmw] at mw
   rw [Bool.false_or,show (if (false=true) then (i:Int) else fidx (meetV v) (i+1) rest)=fidx (meetV v) (i+1) rest from rfl]
   simp -implicitDefEqProofs [k130_2] at ih
   simp -implicitDefEqProofs [r130_2,k130_2,hi,xi,ftw,rfw,rcv,ret0 m65,mw,hw,trim_le]
   exact ih
theorem conts_pure (pre:List Vol) (x:Bool) (v:Vol) (h1:rightV v=true) (h2:∀ w∈pre,rightV w=true) (hl:pre.length≤1000000) :
  pureCall E.P (L E) 64 [lst x (volR.vals pre),clV v]=some (.bool (pre.any (meetV v))):=by
 have ip:=index_pure pre x v h1 h2 hl
 have rc:∀ h,reify E.P 8 h (clV v)=some (clV v):=fun h=>rfl
 have rl:∀ h,reify E.P 8 h (lst x (volR.vals pre))=some (lst x (volR.vals pre)):=fun h=>rfl
 have hf:=fidx_any (p:=meetV v) (l:=pre) (i:=0)
 rw [pureCall_fn F64 rfl]
 generalize lst x (volR.vals pre)=VP at *
 generalize clV v=CL at *
 generalize fidx (meetV v) 0 pre=z at *
 cases ha:pre.any (meetV v) with
 | true =>
  have hz:0≤z:=hf.2 ha
  simp -implicitDefEqProofs [r64,padS,rc,rl,ret0 m130,ip,hz]
 | false =>
  have hz:¬ 0≤z:=fun q=>by have:=hf.1 q;rw [ha] at this;cases this
  simp -implicitDefEqProofs [r64,padS,rc,rl,ret0 m130,ip,hz]
end Go.Proofs.YtplebjehcgcdeaaGreatDoor.Bm
namespace Go.Proofs.YtplebjehcgcdeaaGreatDoor.Bm
open Go Go.RowKit
open Dw (Vol Ent Phs Drw rightRB rightV meetV volsB givesB phsB formB nameB)
theorem uStr:E.P.underlying 9=some .string:=by kernel_rfl
theorem ba_beq (a b:ByteArray):(a == b)=decide (a=b):=by
 rw [Bool.eq_iff_iff,decide_eq_true_iff]
 obtain ⟨x⟩:=a
 obtain ⟨y⟩:=b
 show (x == y)=true↔_
 rw [beq_iff_eq,ByteArray.mk.injEq]
def strL (l:List UInt8):Value:=.string ⟨⟨l⟩⟩
theorem strK:KeyEnc E.P 9 strL where
 flat _:=rfl
 ok s:=by unfold keyOk strL;rw [uStr]
 eq a b:=by
  unfold aKeyEq strL
  rw [uStr]
  show some ((⟨⟨a⟩⟩:ByteArray) == ⟨⟨b⟩⟩)=_
  rw [ba_beq]
  congr 1
  exact decide_eq_decide.2 str_inj
 bits s:=by
  show ((⟨⟨s⟩⟩:ByteArray) == ⟨⟨s⟩⟩)=true
  rw [ba_beq,decide_eq_true rfl]
def setN (pre:List (List UInt8)):List (List UInt8 × Value):=pre.map fun l=>(l,.bool true)
theorem setN_get {pre:List (List UInt8)} {l:List UInt8}:aget (setN pre) l=if l∈pre then some (.bool true) else none:=by
 induction pre with
 | nil=>rfl
 | cons x r ih =>
  show (if x=l then some (Value.bool true) else aget (setN r) l)=_
  rw [ih]
  by_cases h:x=l
  ·simp [h]
  ·have h':¬ l=x:=fun q=>h q.symm
   simp [h,h']
theorem setN_put {pre:List (List UInt8)} {l:List UInt8} (h:l ∉ pre):aset (setN pre) l (.bool true)=setN (pre++[l]):=by
 rw [aset_new (by rw [setN_get,if_neg h])]
 unfold setN
 rw [List.map_append];rfl
theorem setN_bel (n:Nat) (c:List (List UInt8)):belowO n (mapB strL (setN c))=true:=by
 show (ents strL (setN c) 0).all (fun e=>below depth n e.key && below depth n e.val)=true
 generalize 0=i
 induction c generalizing i with
 | nil=>rfl
 | cons x r ih=>exact ih (i+1)
def gpre:List (List UInt8)→List Ent→List (List UInt8)
 | pre,[]=>pre
 | pre,e :: r=>if (!decide (e.1∈pre) && nameB e.1 && decide (0≤e.2) && decide (e.2≤1073741824))=true then gpre (pre++[e.1]) r else pre
theorem vol_set (v:Vol):(volR.enc v).all (settled 8)=true:=rfl
theorem vol_len (v:Vol):(volR.enc v).length=9:=rfl
theorem box_clo (A:AObj) (v:Vol):reify E.P 8 [A,.cells tV (volR.enc v) 0] (.func (.func 65) ⟨[]⟩ ⟨[.pointer (some ⟨1,0,none⟩)]⟩)=some (clV v):=by
 have h2:=vol_set v
 have h3:=vol_len v
 unfold clV
 generalize volR.enc v=LV at *
 simp -implicitDefEqProofs [sVol,aVol,h3,reifyC_set h2]
theorem form_pure (k:Option Bool) (d:Drw) (hk:Rec.Ok k d.phs) (hp:d.phs.length≤1000000) (hv:d.all.length≤1000000) (hg:∀ p∈d.phs,p.gives.length≤1000000∧∀ e∈p.gives,e.1.length≤1000000) :
  pureCall E.P (L E) 21 [drV k d]=some (.bool (formB d)):=by
 have al:=all_spec k d hk hp hv
 have hs:settled 8 (drV k d)=true:=by
  show ([_,_]:List Value).all (settled 7)=true
  simp only [List.all_cons,List.all_nil,Bool.and_true,Bool.and_eq_true]
  exact ⟨rfl,Rec.o_set⟩
 unfold formB
 generalize hL:d.all=l at *
 obtain ⟨lot,phs⟩:=d
 simp only at hk hp hg ⊢
 have ll:∀ h,lenT .sl h (phR.o k phs)=some (.int .i64 phs.length):=fun h=>Rec.o_len hk
 have lv:∀ h,lenT .sl h (lst false (volR.vals l))=some (.int .i64 l.length):=fun h=>Rec.tree_len
 have ix:=fun (i:Nat) (hi:i<phs.length)=>Rec.o_index (R:=phR) (s:=2) (t:=tP) (kk:=.i64) rfl hk hi
 have iv:=fun (i:Nat) (hi:i<l.length)=>Rec.index_tree (R:=volR) (h0:=9) (x:=false) (t:=tV) (k:=.i64) rfl hi
 have tk:∀ h (i:Nat),i<l.length→sliceT (.sl tV ⟨some true,some 9⟩) h (lst false (volR.vals l)) none (some (.int .i64 (i:Int))) none=some (lst false (volR.vals (l.take i))):=fun h i hi=>by
  show sliceT (.sl tV ⟨some true,some (volR.m+1)⟩) h (lst false (volR.vals l)) none (some (.int .i64 (i:Int))) none=_
  rw [slice_take (Rec.vals_all l) (by rw [Rec.vals_len];omega)]
  unfold Rec.vals
  rw [List.map_take];rfl
 have bP:∀ d n,below (d+1) n (phR.o k phs)=true:=fun d n=>Rec.o_bel
 have bV:∀ d n,below (d+1) n (lst false (volR.vals l))=true:=fun d n=>rfl
 unfold drV at *
 simp only at *
 generalize phR.o k phs=VP at *
 have bD:∀ n,below 8 n (.agg ⟨[.int .i64 lot,VP]⟩)=true:=fun n=>by show ([_,_]:List Value).all (below 7 n)=true;simp only [List.all_cons,List.all_nil,bP,bel_int,Bool.and_self]
 obtain ⟨A0,hA⟩:∃ A,AObj.cells tD [.int .i64 lot,VP] 0=A:=⟨_,rfl⟩
 have bl:∀ n,belowO n A0=true:=fun n=>by rw [← hA];show ([_,_]:List Value).all (below 8 n)=true;simp only [List.all_cons,List.all_nil,bP,bel_int,Bool.and_self]
 have ld0:∀ X,loadT ⟨some false,some 1⟩ (A0 :: X) (.pointer (some ⟨0,0,none⟩))=some (.int .i64 lot):=fun X=>by rw [← hA];exact obj_load (j:=0) (t:=tD) (c:=[.int .i64 lot,VP]) rfl rfl
 have ld:∀ X,loadT ⟨some false,some 1⟩ (A0 :: X) (.pointer (some ⟨0,1,none⟩))=some VP:=fun X=>by rw [← hA];exact obj_load (j:=1) (t:=tD) (c:=[.int .i64 lot,VP]) rfl rfl
 have la:∀ X,loadT ⟨some true,some 2⟩ (A0 :: X) (.pointer (some ⟨0,0,none⟩))=some (.agg ⟨[.int .i64 lot,VP]⟩):=fun X=>by rw [← hA];exact obj_all (n:=2) (t:=tD) (c:=[.int .i64 lot,VP]) rfl rfl
 rw [pureCall_fn F21 rfl]
 by_cases c1:0≤lot
 case neg =>
  have c1':lot<0:=by omega
  simp -implicitDefEqProofs [r21,p21,ret1s m59,hs,al,hA,ld0,la,c1,c1']
 have c1':¬ lot<0:=by omega
 by_cases c2:lot≤1073741824
 case neg =>
  have c2':1073741824<lot:=by omega
  simp -implicitDefEqProofs [r21,p21,ret1s m59,hs,al,hA,ld0,la,c1,c1',c2,c2']
 have c2':¬ 1073741824<lot:=by omega
 by_cases c3:1≤phs.length
 case neg =>
  have c3':(phs.length:Int)<1:=by omega
  simp -implicitDefEqProofs [r21,p21,ret1s m59,hs,al,hA,ld0,ld,la,ll,c1,c1',c2,c2',c3,c3']
 have c3':¬ (phs.length:Int)<1:=by omega
 by_cases c4:phs.length≤8
 case neg =>
  have c4':8<(phs.length:Int):=by omega
  simp -implicitDefEqProofs [r21,p21,ret1s m59,hs,al,hA,ld0,ld,la,ll,c1,c1',c2,c2',c3,c3',c4,c4']
 have c4':¬ 8<(phs.length:Int):=by omega
 by_cases c5:1≤l.length
 case neg =>
  have c5':(l.length:Int)<1:=by omega
  simp -implicitDefEqProofs [r21,p21,ret1s m59,hs,al,hA,ld0,ld,la,ll,lv,c1,c1',c2,c2',c3,c3',c4,c4',c5,c5']
 have c5':¬ (l.length:Int)<1:=by omega
 by_cases c6:l.length≤40
 case neg =>
  have c6':40<(l.length:Int):=by omega
  simp -implicitDefEqProofs [r21,p21,ret1s m59,hs,al,hA,ld0,ld,la,ll,lv,c1,c1',c2,c2',c3,c3',c4,c4',c5,c5',c6,c6']
 have c6':¬ 40<(l.length:Int):=by omega
 simp -implicitDefEqProofs [r21,p21,ret1s m59,hs,al,hA,ld0,ld,la,ll,lv,c1,c1',c2,c2',c3',c4',c5',c6']
 generalize hVL:lst false (volR.vals l)=VL at *
 rw [LL_for (γ:=Unit) l () (fun i _=>[(45,.int .i64 (i:Int))]) (fun _ _=>[A0]) (fun i rest _=>if volsB (l.take i) rest then (.exit 0,[(45,undef)],[A0]) else (.ret,[(2,.bool false),(45,undef)],[A0])) (fun i _=>∀ w∈l.take i,rightV w=true) (by omega) (by simp)]
 ·rw [List.take_zero]
  cases hvb:volsB [] l with
  | false=>simp -implicitDefEqProofs [k21_5]
  | true =>
   simp -implicitDefEqProofs [k21_5,ld,ll]
   rw [LL_for (γ:=Unit) phs () (fun i _=>[(64,.int .i64 (i:Int))]) (fun _ _=>[A0]) (fun i rest _=>if rest.all phsB then (.exit 2,[(64,undef)],[A0]) else (.ret,[(2,.bool false),(64,undef)],[A0])) (fun i _=>True) (by omega) trivial]
   ·cases hpb:phs.all phsB with
    | false=>simp -implicitDefEqProofs [k21_11]
    | true=>simp -implicitDefEqProofs [k21_11,c3,c4,c5,c6]
   ·simp -implicitDefEqProofs [k21_11]
   ·rfl
   ·intro nx i c hi _
    simp -implicitDefEqProofs [r21_11,k21_11,hi,trim_le]
   ·intro nx i q rest u hi hv2 hd hw _ ih
    have ih:=ih () trivial
    have xi:=ix i hi
    rw [hv2,ph_val] at xi
    obtain ⟨hg1,hg2⟩:=hg q (by rw [← hv2];exact List.getElem_mem hi)
    obtain ⟨qv,qg⟩:=q
    simp only at xi hg1 hg2
    have lg:∀ h,lenT .sl h (lst false (entR.vals qg))=some (.int .i64 qg.length):=fun h=>Rec.tree_len
    have ig:=fun (j:Nat) (hj:j<qg.length)=>Rec.index_tree (R:=entR) (h0:=2) (x:=false) (t:=tE) (k:=.i64) rfl hj
    have ftp:fitsTT ⟨some true,some 2⟩ (.agg ⟨[lst false (volR.vals qv),lst false (entR.vals qg)]⟩)=true:=rfl
    have bQ:∀ d n,below (d+1) n (lst false (entR.vals qg))=true:=fun d n=>rfl
    have bW:∀ d n,below (d+1) n (lst false (volR.vals qv))=true:=fun d n=>rfl
    rw [List.all_cons,show phsB ⟨qv,qg⟩=(givesB [] qg && decide (qg.length≤30)) from rfl]
    generalize rest.all phsB=RA at *
    generalize lst false (volR.vals qv)=VW at *
    generalize lst false (entR.vals qg)=VG at *
    have stp:storeT (some 2) [A0,.cells tP [.slice none 0 0,.slice none 0 0] 0] 0 (.agg ⟨[VW,VG]⟩) (.pointer (some ⟨1,0,none⟩))=some [A0,.cells tP [VW,VG] 0]:=snoc_put (g:=[A0]) rfl rfl (by decide) (Nat.zero_le _)
    have lp:∀ X,loadT ⟨some false,some 1⟩ (A0 :: .cells tP [VW,VG] 0 :: X) (.pointer (some ⟨1,1,none⟩))=some VG:=fun X=>obj_load (j:=1) (t:=tP) (c:=[VW,VG]) rfl rfl
    have em:AObj.map [] 0=mapB strL (setN []):=rfl
    simp -implicitDefEqProofs [r21_11,k21_11,hi,xi,ftp,stp,lp,lg,em]
    rw [LL_for (γ:=List (List UInt8)) qg [] (fun j _=>[(72,.int .i64 (j:Int))]) (fun _ c=>[A0,.cells tP [VW,VG] 0,mapB strL (setN c)]) (fun j rest c=>if givesB c rest then (.exit 4,[(72,undef)],[A0,.cells tP [VW,VG] 0,mapB strL (setN (gpre c rest))]) else (.ret,[(2,.bool false),(72,undef)],[A0,.cells tP [VW,VG] 0,mapB strL (setN (gpre c rest))])) (fun _ _=>True) (by omega) trivial]
    ·generalize gpre [] qg=C
     have bm:=fun n=>setN_bel n C
     simp -implicitDefEqProofs [k21_11] at ih
     cases hgb:givesB [] qg with
     | false=>simp -implicitDefEqProofs [k21_15,trim_cut,bl,bD,bP,bV,-List.all_eq_true]
     | true =>
      by_cases h30:qg.length≤30
      ·have h30':¬ 30<(qg.length:Int):=by omega
       simp -implicitDefEqProofs [k21_15,lp,lg,h30,h30',hw,trim_cut,bl,bD,bP,bV,-List.all_eq_true]
       exact ih
      ·have h30':30<(qg.length:Int):=by omega
       simp -implicitDefEqProofs [k21_15,lp,lg,h30,h30',trim_cut,bl,bD,bP,bV,-List.all_eq_true]
    ·simp -implicitDefEqProofs [k21_15]
    ·rfl
    ·intro nx j c hj _
     simp -implicitDefEqProofs [r21_15,k21_15,hj,trim_le,givesB,gpre]
    ·intro nx j e rst c hj hve hde hwe _ ihe
     have ihe:=ihe (c++[e.1]) trivial
     have xg:=ig j hj
     rw [hve] at xg
     obtain ⟨nm,z⟩:=e
     change _=some (cptr (.agg ⟨[strL nm,.int .i64 z]⟩)) at xg
     have fte:fitsTT ⟨some true,some 2⟩ (.agg ⟨[strL nm,.int .i64 z]⟩)=true:=rfl
     have np:=name_pure nm (hg2 (nm,z) (by rw [← hve];exact List.getElem_mem hj))
     change pureCall _ _ _ [strL nm]=_ at np
     have rfs:∀ h,reify E.P 8 h (strL nm)=some (strL nm):=fun h=>rfl
     have ste:∀ B C,storeT (some 2) [A0,B,C,.cells tE [.string ⟨⟨[]⟩⟩,.int .i64 0] 0] 0 (.agg ⟨[strL nm,.int .i64 z]⟩) (.pointer (some ⟨3,0,none⟩))=some [A0,B,C,.cells tE [strL nm,.int .i64 z] 0]:=fun B C=>snoc_put (g:=[A0,B,C]) rfl rfl (by decide) (Nat.zero_le _)
     have le0:∀ B C,loadT ⟨some false,some 1⟩ [A0,B,C,.cells tE [strL nm,.int .i64 z] 0] (.pointer (some ⟨3,0,none⟩))=some (strL nm):=fun B C=>obj_load (j:=0) (t:=tE) (c:=[strL nm,.int .i64 z]) rfl rfl
     have le1:∀ B C,loadT ⟨some false,some 1⟩ [A0,B,C,.cells tE [strL nm,.int .i64 z] 0] (.pointer (some ⟨3,1,none⟩))=some (.int .i64 z):=fun B C=>obj_load (j:=1) (t:=tE) (c:=[strL nm,.int .i64 z]) rfl rfl
     have bS:∀ d n,below (d+1) n (strL nm)=true:=fun d n=>rfl
     have bMp:below 8 3 (.map (some 2))=true:=rfl
     have bm:=fun n=>setN_bel n c
     unfold givesB gpre
     simp only
     by_cases hin:nm∈c
     ·have lk:∀ D,lookupT E.P (some ⟨9,some (.bool false)⟩) [A0,.cells tP [VW,VG] 0,mapB strL (setN c),D] (.map (some 2)) (strL nm) false=some (.bool true):=fun D=>lookup_some (ok:=false) strK rfl rfl (by rw [setN_get,if_pos hin])
      simp -implicitDefEqProofs [r21_15,k21_15,hj,xg,fte,ste,le0,lk,hin,trim_cut,bl,bm,bD,bP,bV,bQ,bW,bMp,-List.all_eq_true]
     ·have lk:∀ D,lookupT E.P (some ⟨9,some (.bool false)⟩) [A0,.cells tP [VW,VG] 0,mapB strL (setN c),D] (.map (some 2)) (strL nm) false=some (.bool false):=fun D=>lookup_none (ok:=false) strK rfl rfl (by rw [setN_get,if_neg hin])
      have pm:∀ D,mapPutT E.P (some ⟨9,some (.bool false)⟩) [A0,.cells tP [VW,VG] 0,mapB strL (setN c),D] 0 (.map (some 2)) (strL nm) (.bool true)=some [A0,.cells tP [VW,VG] 0,mapB strL (setN (c++[nm])),D]:=fun D=>by
       rw [put_map (z:=some (.bool false)) (r:=2) (l:=setN c) strK rfl (Nat.zero_le _),setN_put hin];rfl
      have bm2:=fun n=>setN_bel n (c++[nm])
      cases hnm:nameB nm with
      | false =>
       rw [hnm] at np
       simp -implicitDefEqProofs [r21_15,k21_15,hj,xg,fte,ste,le0,lk,hin,rfs,ret0 m67,np,trim_cut,bl,bm,bD,bP,bV,bQ,bW,bMp,-List.all_eq_true]
      | true =>
       rw [hnm] at np
       by_cases z1:0≤z
       ·have z1':¬ z<0:=by omega
        by_cases z2:z≤1073741824
        ·have z2':¬ 1073741824<z:=by omega
         have hcond:(!decide (nm∈c) && true && decide (0≤z) && decide (z≤1073741824))=true:=by simp [hin,z1,z2]
         rw [hcond,if_pos rfl,Bool.true_and]
         generalize gpre (c++[nm]) rst=G at *
         generalize givesB (c++[nm]) rst=GB at *
         simp -implicitDefEqProofs [k21_15] at ihe
         simp -implicitDefEqProofs [r21_15,k21_15,hj,xg,fte,ste,le0,le1,lk,rfs,ret0 m67,np,z1',z2',pm,hwe,trim_cut,bl,bm2,bD,bP,bV,bQ,bW,bMp,-List.all_eq_true]
         exact ihe
        ·have z2':1073741824<z:=by omega
         simp -implicitDefEqProofs [r21_15,k21_15,hj,xg,fte,ste,le0,le1,lk,hin,rfs,ret0 m67,np,z1,z1',z2,z2',trim_cut,bl,bm,bD,bP,bV,bQ,bW,bMp,-List.all_eq_true]
       ·have z1':z<0:=by omega
        simp -implicitDefEqProofs [r21_15,k21_15,hj,xg,fte,ste,le0,le1,lk,hin,rfs,ret0 m67,np,z1,z1',trim_cut,bl,bm,bD,bP,bV,bQ,bW,bMp,-List.all_eq_true]
 ·simp -implicitDefEqProofs [k21_5]
 ·rfl
 ·intro nx i c hi _
  simp -implicitDefEqProofs [r21_5,k21_5,hi,trim_le,volsB]
 ·intro nx i v rest u hi hv2 hd hw hinv ih
  have xi:=iv i hi
  rw [hv2] at xi
  change _=some (cptr (.agg ⟨volR.enc v⟩)) at xi
  have tki:=fun h=>tk h i hi
  have rv:=rightV_pure v
  have ftw:fitsTT ⟨some true,some 9⟩ (.agg ⟨volR.enc v⟩)=true:=rfl
  have rfw:∀ h,reify E.P 8 h (.agg ⟨volR.enc v⟩)=some (.agg ⟨volR.enc v⟩):=fun h=>rfl
  have rfc:=box_clo A0 v
  have rft:∀ h,reify E.P 8 h (lst false (volR.vals (l.take i)))=some (lst false (volR.vals (l.take i))):=fun h=>rfl
  have st:storeT (some 9) [A0,.cells tV [.int .i64 0,.int .i64 0,.int .i64 0,.int .i64 0,.int .i64 0,.int .i64 0,.int .i64 0,.int .i64 0,.bool false] 0] 0 (.agg ⟨volR.enc v⟩) (.pointer (some ⟨1,0,none⟩))=some [A0,.cells tV (volR.enc v) 0]:=snoc_put (g:=[A0]) rfl rfl (by decide) (Nat.zero_le _)
  have l9:loadT ⟨some true,some 9⟩ [A0,.cells tV (volR.enc v) 0] (.pointer (some ⟨1,0,none⟩))=some (.agg ⟨volR.enc v⟩):=snoc_all (g:=[A0]) rfl
  have et:l.take (i+1)=l.take i++[v]:=by rw [List.take_add_one,List.getElem?_eq_getElem hi,hv2];rfl
  unfold volsB
  cases hr:rightV v with
  | false =>
   simp -implicitDefEqProofs [r21_5,k21_5,hi,xi,ftw,st,l9,rfw,ret0 m28,rv,hr,trim_cut,bl,bD,bP,bV,-List.all_eq_true]
  | true =>
   have cp:=conts_pure (l.take i) false v hr hinv (by rw [List.length_take];omega)
   have ih:=ih () (by
    rw [et]
    intro w hw
    rcases List.mem_append.1 hw with q | q
    ·exact hinv w q
    ·rw [List.mem_singleton.1 q];exact hr)
   rw [et] at ih
   generalize lst false (volR.vals (l.take i))=VT at *
   generalize clV v=CL at *
   cases ha:(l.take i).any (meetV v) with
   | true =>
    rw [ha] at cp
    simp -implicitDefEqProofs [r21_5,k21_5,hi,xi,ftw,st,l9,rfw,ret0 m28,rv,hr,tki,rft,rfc,ret0 m64,cp,trim_cut,bl,bD,bP,bV,-List.all_eq_true]
   | false =>
    rw [ha] at cp
    simp -implicitDefEqProofs [k21_5] at ih
    simp -implicitDefEqProofs [r21_5,k21_5,hi,xi,ftw,st,l9,rfw,ret0 m28,rv,hr,tki,rft,rfc,ret0 m64,cp,hw,trim_cut,bl,bD,bP,bV,-List.all_eq_true]
    exact ih
end Go.Proofs.YtplebjehcgcdeaaGreatDoor.Bm
namespace Go.Proofs.YtplebjehcgcdeaaGreatDoor.Bm
open Go Go.RowKit
open Dw (RS Vol Ent Phs Drw numS textS numsS volsL givesL phaseS phsL readF okNums volOf formB)
theorem volsL_out:∀ (n:Nat) (s:RS) (out:List Vol),(volsL n s out).1.length≤out.length+n
 | 0,s,out=>Nat.le_refl _
 | n+1,s,out=>by
  unfold volsL
  split
  ·have:=volsL_out n (numsS s).2 (out++[volOf (numsS s).1])
   rw [List.length_append,List.length_singleton] at this
   omega
  ·simp only;omega
theorem textS_out (s:RS):(textS s).1.length≤s.1.length:=by
 unfold textS
 simp only
 have h2:=numS_len (e:=58) (least:=0) s
 split
 ·exact Nat.zero_le _
 ·split
  ·exact Nat.zero_le _
  ·rw [List.length_take];omega
theorem givesL_out {B:Nat}:∀ (n:Nat) (s:RS) (out:List Ent),s.1.length≤B→(∀ e∈out,e.1.length≤B)→(givesL n s out).1.length=out.length+n∧(∀ e∈(givesL n s out).1,e.1.length≤B)∧(givesL n s out).2.1.length≤s.1.length
 | 0,s,out,_,ho=>⟨rfl,ho,Nat.le_refl _⟩
 | n+1,s,out,hs,ho=>by
  unfold givesL
  have h1:=textS_len s
  have h2:=numS_len (e:=59) (least:=0) (textS s).2
  obtain ⟨a,b,c⟩:=givesL_out (B:=B) n (numS 59 0 (textS s).2).2 (out++[((textS s).1,(numS 59 0 (textS s).2).1)]) (by omega) (by
   intro e he
   rcases List.mem_append.1 he with q | q
   ·exact ho e q
   ·rw [List.mem_singleton.1 q]
    have:=textS_out s
    simp only;omega)
  refine ⟨by rw [a,List.length_append,List.length_singleton];omega,b,by omega⟩
def OkP (B:Nat) (p:Phs):Prop:=p.vols.length≤40∧p.gives.length≤30∧∀ e∈p.gives,e.1.length≤B
theorem phase_out {B:Nat} {s:RS} (hs:s.1.length≤B):OkP B (phaseS s).1∧(phaseS s).2.2.1.length≤s.1.length:=by
 unfold phaseS
 simp only
 have h1:=numS_len (e:=59) (least:=0) s
 split
 ·exact ⟨⟨Nat.zero_le _,Nat.zero_le _,by simp⟩,h1⟩
 ·rename_i q1
  have h2:=volsL_out (numS 59 0 s).1.toNat (numS 59 0 s).2 []
  have h3:=volsL_len (numS 59 0 s).1.toNat (numS 59 0 s).2 []
  simp only [List.length_nil,Nat.zero_add] at h2
  have h4:(numS 59 0 s).1.toNat≤40:=by omega
  split
  ·have h5:=numS_len (e:=59) (least:=0) (volsL (numS 59 0 s).1.toNat (numS 59 0 s).2 []).2.2
   split
   ·exact ⟨⟨by simp only;omega,Nat.zero_le _,by simp⟩,by simp only;omega⟩
   ·rename_i q3
    obtain ⟨a,b,c⟩:=givesL_out (B:=B) (numS 59 0 (volsL (numS 59 0 s).1.toNat (numS 59 0 s).2 []).2.2).1.toNat (numS 59 0 (volsL (numS 59 0 s).1.toNat (numS 59 0 s).2 []).2.2).2 [] (by omega) (by simp)
    exact ⟨⟨by simp only;omega,by rw [a];simp only [List.length_nil];omega,b⟩,by simp only;omega⟩
  ·exact ⟨⟨by simp only;omega,Nat.zero_le _,by simp⟩,by simp only;omega⟩
def phsX:Nat→RS→List Phs→Bool × List Phs × RS
 | 0,s,out=>(true,out,s)
 | n+1,s,out=>if (phaseS s).2.1 then phsX n (phaseS s).2.2 (out++[(phaseS s).1]) else (false,out,(phaseS s).2.2)
theorem phsX_L:∀ (n:Nat) (s:RS) (out:List Phs),phsL n s out=if (phsX n s out).1 then some (phsX n s out).2 else none
 | 0,s,out=>rfl
 | n+1,s,out=>by
  unfold phsL phsX
  split
  ·exact phsX_L n _ _
  ·rfl
theorem phsX_out {B:Nat}:∀ (n:Nat) (s:RS) (out:List Phs),s.1.length≤B→(∀ p∈out,OkP B p)→(phsX n s out).2.1.length≤out.length+n∧∀ p∈(phsX n s out).2.1,OkP B p
 | 0,s,out,_,ho=>⟨Nat.le_refl _,ho⟩
 | n+1,s,out,hs,ho=>by
  unfold phsX
  obtain ⟨h1,h2⟩:=phase_out (B:=B) hs
  split
  ·obtain ⟨a,b⟩:=phsX_out (B:=B) n (phaseS s).2.2 (out++[(phaseS s).1]) (by omega) (by
    intro e he
    rcases List.mem_append.1 he with q | q
    ·exact ho e q
    ·rw [List.mem_singleton.1 q];exact h1)
   refine ⟨?_,b⟩
   rw [List.length_append,List.length_singleton] at a
   omega
  ·exact ⟨by simp only;omega,ho⟩
theorem flat_bound {B:Nat}:∀ {l:List Phs},(∀ p∈l,OkP B p)→(l.flatMap Phs.vols).length≤40 * l.length
 | [],_=>Nat.le_refl _
 | p :: r,h=>by
  rw [List.flatMap_cons,List.length_append,List.length_cons]
  have h1:=(h p (by simp)).1
  have h2:=flat_bound (l:=r) fun q hq=>h q (List.mem_cons_of_mem _ hq)
  omega
theorem open_call (l:List UInt8) (h:Heap) (lo:Nat):retCall E (L E) lo false 84 [.string ⟨⟨l⟩⟩] h=some (rdP h.length,h++[rdC tW (l,false)]):=by
 have b1:buildT (.fs ⟨[.string ⟨⟨[]⟩⟩,.bool false]⟩ ⟨[(0,1),(1,1)]⟩) #[(0,.string ⟨⟨l⟩⟩)]=some (.agg ⟨[.string ⟨⟨l⟩⟩,.bool false]⟩):=by kernel_rfl
 rw [ret2 m84,L_fn F84 rfl]
 unfold rdC rdP
 simp -implicitDefEqProofs [r84,padS,b1]
theorem done_call {h:Heap} {b lo:Nat} {s:RS} (hob:h[b]?=some (rdC tW s)):retCall E (L E) lo false 87 [rdP b] h=some (.bool (!s.2 && decide (s.1=[])),h):=by
 have l1:=rd_rest hob (sz:=some 1)
 have l2:=rd_bad hob (sz:=some 1)
 have key:L E 87 [rdP b] h lo=some (.bool (!s.2 && decide (s.1=[])),h):=by
  rw [L_fn F87 rfl]
  cases hb:s.2 with
  | true =>
   rw [hb] at l2
   simp -implicitDefEqProofs [r87,padS,rop_nilCheck,l2]
  | false =>
   rw [hb] at l2
   simp -implicitDefEqProofs [r87,padS,rop_nilCheck,l1,l2]
 rw [ret3t m87,key,Option.map_some,trim_le (Nat.le_refl _)]
abbrev nilD:AObj:=.cells tD [.int .i64 0,.slice none 0 0] 0
def DH (lot:Int) (s:RS) (ps:List Phs):Heap:=[nilD,rdC tW s,.cells tD [.int .i64 lot,phR.sl 3 ps] 0,phR.row tP ps]
theorem DH_all {lot:Int} {s:RS} {ps:List Phs}:(DH lot s ps).all (belowO (DH lot s ps).length)=true:=by
 have e1:belowO 4 (.cells tD [.int .i64 lot,phR.sl 3 ps] 0)=true:=by
  have h1:below 8 4 (phR.sl 3 ps)=true:=Rec.sl_bel (by omega)
  show ([_,_]:List Value).all (below 8 _)=true
  simp only [List.all_cons,List.all_nil,h1,bel_int,Bool.and_self]
 show ([_,_,_,_]:Heap).all (belowO 4)=true
 simp only [List.all_cons,List.all_nil,e1,Rec.row_bel,Bool.and_true]
 rfl
def resD:Option Drw→Value
 | some d=>.tuple ⟨[drV (some false) d,.int .i64 0]⟩
 | none=>.tuple ⟨[.agg ⟨[.int .i64 0,.slice none 0 0]⟩,.int .i64 2]⟩
abbrev elP:El:=⟨tP,2,48,.agg ⟨[.slice none 0 0,.slice none 0 0]⟩,⟨some true,some 2⟩⟩
theorem lit_ph (h:Heap) (p:Phs):buildSliceT (some elP) false h 1 #[(0,.agg ⟨phR.enc p⟩)]=some (lst true (phR.vals [p]),h) :=
 (build_lit' (n:=1) (l:=[(0,.agg ⟨phR.enc p⟩)]) rfl rfl (by decide) (by decide) (by decide)).trans rfl
theorem DH_app {lot:Int} {s:RS} {ps:List Phs} {X:AObj} (p:Phs) (hp:ps.length≤1000):appendT (some elP) (DH lot s ps++[X]) 0 false (phR.sl 3 ps) (lst true (phR.vals [p])) =
  some (phR.sl 3 (ps++[p]),[nilD,rdC tW s,.cells tD [.int .i64 lot,phR.sl 3 ps] 0,phR.row tP (ps++[p]),X]):=by
 have:=Rec.app (R:=phR) (m:=[p]) (lo:=0) (h:=DH lot s ps++[X]) (b:=3) (acc:=ps) (t:=tP) (u:=lst true (phR.vals [p])) (el:=elP) rfl rfl (Rec.cells_tree (R:=phR) rfl [p]) (Nat.zero_le _) (by show (ps.length+1) * 48≤2 ^ 47;omega)
 rw [this];rfl
theorem DH_st {lot:Int} {s:RS} {ps ps':List Phs} {X:AObj}:storeT (some 1) [nilD,rdC tW s,.cells tD [.int .i64 lot,phR.sl 3 ps] 0,phR.row tP ps',X] 0 (phR.sl 3 ps') (.pointer (some ⟨2,1,none⟩))=some (DH lot s ps'++[X]):=by
 have:=obj_store (h:=[nilD,rdC tW s,.cells tD [.int .i64 lot,phR.sl 3 ps] 0,phR.row tP ps',X]) (b:=2) (j:=1) (lo:=0) (t:=tD) (c:=[.int .i64 lot,phR.sl 3 ps]) (v:=phR.sl 3 ps') rfl (by simp) (Nat.zero_le _) rfl
 unfold cAt at this
 rw [this];rfl
theorem DH_ld {lot:Int} {s:RS} {ps:List Phs} {X:Heap}:loadT ⟨some false,some 1⟩ (DH lot s ps++X) (.pointer (some ⟨2,1,none⟩))=some (phR.sl 3 ps) :=
 obj_load (j:=1) (t:=tD) (c:=[.int .i64 lot,phR.sl 3 ps]) rfl rfl
theorem DH_len {lot:Int} {s:RS} {ps:List Phs}:(DH lot s ps).length=4:=rfl
theorem DH_trim {lot:Int} {s:RS} {ps:List Phs} {X:AObj} {σ:List Value} (hσ:σ.all (below 8 4)=true):trim 4 σ (DH lot s ps++[X])=DH lot s ps:=by
 rw [trim_cut (by rw [List.length_append,DH_len,List.length_singleton];decide) hσ (by rw [List.take_left' DH_len];exact DH_all),List.take_left' DH_len]
theorem bD1 {z:Int}:buildT (.fs ⟨[.int .i64 0,.slice none 0 0]⟩ ⟨[(0,1),(1,1)]⟩) #[(0,.int .i64 z)]=some (.agg ⟨[.int .i64 z,.slice none 0 0]⟩):=by kernel_rfl
theorem bD0:buildT (.fs ⟨[.int .i64 0,.slice none 0 0]⟩ ⟨[(0,1),(1,1)]⟩) #[]=some (.agg ⟨[.int .i64 0,.slice none 0 0]⟩):=by kernel_rfl
theorem DH_new {lot:Int} {s:RS} (σ:Slots):newcK E.P 0 [nilD,rdC tW s,.cells tD [.int .i64 lot,.slice none 0 0] 0] σ 1 tP (.pointer (some ⟨2,0,none⟩))=some (σ,DH lot s []):=by
 have:=newcK_cell (P:=E.P) (σ:=σ) (lo:=0) (t:=tP) (d:=1) (off:=0) (n:=1) (sp:=none) (b:=2) (g:=0) (ty:=tD) (h:=[nilD,rdC tW s,.cells tD [.int .i64 lot,.slice none 0 0] 0]) (c:=[.int .i64 lot,.slice none 0 0]) rfl rfl sPhs (Nat.zero_le _)
 rw [this];rfl
set_option maxHeartbeats 1000000 in
theorem read_pure (l:List UInt8) (hl:l.length≤100000):pureCall E.P (L E) 31 [.string ⟨⟨l⟩⟩]=some (resD (readF formB l)):=by
 have op:=fun h lo=>open_call l h lo
 have n1:=num_spec (h:=[nilD,rdC tW (l,false)]) (b:=1) (lo:=0) (s:=(l,false)) rfl (Nat.zero_le _) (by simp only;omega)
 have hl1:=numS_len (e:=59) (least:=0) (l,false)
 unfold readF
 simp only
 rw [pureCall_fn F31 rfl]
 generalize numS 59 0 (l,false)=a at *
 obtain ⟨lot,s1⟩:=a
 simp only at *
 have hge:=Dw.numS_ge (e:=59) (least:=0) (s:=s1) (Int.le_refl _)
 have hle:=numS_len (e:=59) (least:=0) s1
 have n2:=num_spec (h:=DH lot s1 []) (b:=1) (lo:=0) (s:=s1) rfl (Nat.zero_le _) (by omega)
 change _=some (_,DH lot (numS 59 0 s1).2 []) at n2
 generalize numS 59 0 s1=a at *
 obtain ⟨z,s2⟩:=a
 obtain ⟨n,rfl⟩:∃ n:Nat,z=n:=⟨z.toNat,(Int.toNat_of_nonneg hge).symm⟩
 simp only [Int.toNat_natCast] at *
 have cN:=fun σ=>DH_new (lot:=lot) (s:=s1) σ
 have st0:∀ X,storeT (some 2) (nilD :: X) 0 (.agg ⟨[.int .i64 0,.slice none 0 0]⟩) (.pointer (some ⟨0,0,none⟩))=some (nilD :: X):=fun X=>by
  have:=obj_put (h:=nilD :: X) (b:=0) (n:=2) (lo:=0) (t:=tD) (c:=[.int .i64 0,.slice none 0 0]) (d:=[.int .i64 0,.slice none 0 0]) rfl rfl rfl (by decide) (Nat.zero_le _)
  unfold cAt at this
  rw [this];rfl
 have rz0:∀ h,reify E.P 8 h (.agg ⟨[.int .i64 0,.slice none 0 0]⟩)=some (.agg ⟨[.int .i64 0,.slice none 0 0]⟩):=fun h=>rfl
 have rz:∀ h,reifyR E.P h (.tuple ⟨[.agg ⟨[.int .i64 0,.slice none 0 0]⟩,.int .i64 2]⟩)=some (.tuple ⟨[.agg ⟨[.int .i64 0,.slice none 0 0]⟩,.int .i64 2]⟩):=fun h=>rfl
 have sD:∀ s ps,storeT (some 2) (DH lot s ps) 0 (.agg ⟨[.int .i64 0,.slice none 0 0]⟩) (.pointer (some ⟨0,0,none⟩))=some (DH lot s ps):=fun s ps=>st0 _
 have gD:∀ s ps,loadT ⟨some true,some 2⟩ (DH lot s ps) (.pointer (some ⟨0,0,none⟩))=some (.agg ⟨[.int .i64 0,.slice none 0 0]⟩):=fun s ps=>obj_all (n:=2) (t:=tD) rfl rfl
 by_cases q1:(8:Int)<n
 ·rw [if_pos q1]
  simp -implicitDefEqProofs [r31,p31,op,n1,prep_newc,bD1,bD0,cN,n2,q1,sD,gD,resD,-Int.natCast_add]
 ·rw [if_neg q1]
  have hn8:n≤8:=by omega
  rw [phsX_L]
  generalize hRH:resD _=RH
  simp -implicitDefEqProofs [r31,p31,op,n1,prep_newc,bD1,cN,n2,q1,-Int.natCast_add]
  rw [LL_rec (α:=RS × Nat × List Phs) (s2,0,[]) (fun a=>[(20,.int .i64 (a.2.1:Int))]) (fun a=>DH lot a.1 a.2.2)
   (fun a=>if (phsX (n-a.2.1) a.1 a.2.2).1 then (.exit 0,[(20,undef)],DH lot (phsX (n-a.2.1) a.1 a.2.2).2.2 (phsX (n-a.2.1) a.1 a.2.2).2.1)
    else (.ret,[(3,.int .i64 2),(20,undef)],DH lot (phsX (n-a.2.1) a.1 a.2.2).2.2 (phsX (n-a.2.1) a.1 a.2.2).2.1))
   (fun a=>a.1.1.length≤100000∧a.2.1≤n∧a.2.2.length=a.2.1) (fun a=>n-a.2.1) ⟨by simp only;omega,Nat.zero_le _,rfl⟩]
  ·rw [Nat.sub_zero]
   simp only
   obtain ⟨hA,hB⟩:=phsX_out (B:=100000) n s2 [] (by omega) (by simp)
   generalize phsX n s2 []=q at *
   obtain ⟨ok,ps,s5⟩:=q
   simp only [List.length_nil,Nat.zero_add] at hA hB ⊢
   cases ok with
   | false =>
    have hRH:resD none=RH:=hRH
    rw [← hRH]
    simp -implicitDefEqProofs [k31_7,gD,resD]
   | true =>
    have dn:=done_call (h:=DH lot s5 ps) (b:=1) (lo:=0) (s:=s5) rfl
    have lf:loadT ⟨some true,some 2⟩ (DH lot s5 ps) (.pointer (some ⟨2,0,none⟩))=some (.agg ⟨[.int .i64 lot,phR.sl 3 ps]⟩):=obj_all (n:=2) (t:=tD) rfl rfl
    have rfD:∀ X,reify E.P 8 (X :: rdC tW s5 :: .cells tD [.int .i64 lot,phR.sl 3 ps] 0 :: [phR.row tP ps]) (.agg ⟨[.int .i64 lot,phR.sl 3 ps]⟩)=some (drV (some false) ⟨lot,ps⟩):=fun X=>by
     have r1:reify E.P 7 (X :: rdC tW s5 :: .cells tD [.int .i64 lot,phR.sl 3 ps] 0 :: [phR.row tP ps]) (phR.sl 3 ps)=some (lst false (phR.vals ps)):=Rec.reify_row (b:=3) (t:=tP) rfl sPhs aPhs
     rw [reify_agg,reifyC_map (by simp [Rec.sl,settled]),mapR_cons,mapR_cons,mapR_nil,r1];rfl
    have fp:=form_pure (some false) ⟨lot,ps⟩ Rec.ok_some (by simp only;omega) (by
     have:=flat_bound hB
     unfold Dw.Drw.all
     simp only;omega) (fun p hp=>by
     obtain ⟨h1,h2,h3⟩:=hB p hp
     exact ⟨by omega,fun e he=>by have:=h3 e he;omega⟩)
    have hRH:resD (if ((!s5.2 && decide (s5.1=[])) && formB ⟨lot,ps⟩)=true then some ⟨lot,ps⟩ else none)=RH:=hRH
    cases hdn:(!s5.2 && decide (s5.1=[])) with
    | false =>
     rw [hdn] at dn
     rw [hdn,Bool.false_and,if_neg (by simp)] at hRH
     rw [← hRH]
     simp -implicitDefEqProofs [k31_7,dn,bD0,sD,gD,resD]
    | true =>
     rw [hdn] at dn
     have rfD1:reify E.P 8 (DH lot s5 ps) (.agg ⟨[.int .i64 lot,phR.sl 3 ps]⟩)=some (drV (some false) ⟨lot,ps⟩):=rfD _
     cases hfm:formB ⟨lot,ps⟩ with
     | false =>
      rw [hfm] at fp
      rw [hdn,hfm,Bool.and_false,if_neg (by simp)] at hRH
      rw [← hRH]
      simp -implicitDefEqProofs [k31_7,dn,lf,rfD1,-reify_agg,ret0 m21,fp,bD0,sD,gD,resD,rz0]
     | true =>
      rw [hfm] at fp
      rw [hdn,hfm,Bool.and_self,if_pos rfl] at hRH
      rw [← hRH]
      have sF:storeT (some 2) (DH lot s5 ps) 0 (.agg ⟨[.int .i64 lot,phR.sl 3 ps]⟩) (.pointer (some ⟨0,0,none⟩))=some [.cells tD [.int .i64 lot,phR.sl 3 ps] 0,rdC tW s5,.cells tD [.int .i64 lot,phR.sl 3 ps] 0,phR.row tP ps]:=by
       have:=obj_put (h:=DH lot s5 ps) (b:=0) (n:=2) (lo:=0) (t:=tD) (c:=[.int .i64 0,.slice none 0 0]) (d:=[.int .i64 lot,phR.sl 3 ps]) rfl rfl rfl (by decide) (Nat.zero_le _)
       unfold cAt at this
       rw [this];rfl
      have gF:loadT ⟨some true,some 2⟩ [.cells tD [.int .i64 lot,phR.sl 3 ps] 0,rdC tW s5,.cells tD [.int .i64 lot,phR.sl 3 ps] 0,phR.row tP ps] (.pointer (some ⟨0,0,none⟩))=some (.agg ⟨[.int .i64 lot,phR.sl 3 ps]⟩):=obj_all (n:=2) (t:=tD) rfl rfl
      have rR:=rfD (.cells tD [.int .i64 lot,phR.sl 3 ps] 0)
      generalize phR.sl 3 ps=SL at *
      generalize hDV:drV (some false) ⟨lot,ps⟩=DV at *
      simp -implicitDefEqProofs [k31_7,dn,lf,rfD1,-reify_agg,ret0 m21,fp,sF,gF,rR,resD,hDV]
  ·simp -implicitDefEqProofs [k31_7]
  ·rfl
  ·rintro nx ⟨s3,i,ps⟩ ⟨hi1,hi2,hi3⟩ ih
   simp only at hi1 hi2 hi3
   by_cases hi:i<n
   ·have hii:((i:Nat):Int)<(n:Int):=by omega
    have ph:=phase_spec (h:=DH lot s3 ps) (b:=1) (lo:=0) (s:=s3) rfl (Nat.zero_le _) hi1 DH_all
    change _=some (_,DH lot (phaseS s3).2.2 ps) at ph
    have hpl:=(phase_out (Nat.le_refl s3.1.length)).2
    have eR:phsX (n-i) s3 ps=if (phaseS s3).2.1 then phsX (n-(i+1)) (phaseS s3).2.2 (ps++[(phaseS s3).1]) else (false,ps,(phaseS s3).2.2):=by
     rw [show n-i=(n-(i+1))+1 by omega];rfl
    rw [eR]
    generalize phaseS s3=a at *
    obtain ⟨p,ok,s4⟩:=a
    simp only at *
    have w1:IntKind.i64.wrap ((i:Int)+1)=((i+1:Nat):Int):=wrap64 (by omega) (by omega)
    have stP:=snoc_put (g:=DH lot s4 ps) (lo:=0) (t:=tP) (n:=2) (c:=[.slice none 0 0,.slice none 0 0]) (d:=phR.enc p) rfl rfl (by decide) (Nat.zero_le _)
    have ldP:=snoc_all (g:=DH lot s4 ps) (t:=tP) (n:=2) (c:=phR.enc p) rfl
    rw [DH_len] at stP ldP
    have ld:=DH_ld (lot:=lot) (s:=s4) (ps:=ps) (X:=[.cells tP (phR.enc p) 0])
    have li:=fun h=>lit_ph h p
    have ap:=DH_app (lot:=lot) (s:=s4) (ps:=ps) (X:=.cells tP (phR.enc p) 0) p (by omega)
    have sE:=DH_st (lot:=lot) (s:=s4) (ps:=ps) (ps':=ps++[p]) (X:=.cells tP (phR.enc p) 0)
    have tr:=fun ps' σ hσ=>DH_trim (lot:=lot) (s:=s4) (ps:=ps') (X:=.cells tP (phR.enc p) 0) (σ:=σ) hσ
    cases ok with
    | true =>
     have ih:=ih (s4,i+1,ps++[p]) (by simp only;omega) ⟨by simp only;omega,by simp only;omega,by simp [hi3]⟩
     simp only [if_true]
     generalize phsX (n-(i+1)) s4 (ps++[p])=q at *
     generalize phR.enc p=LP at *
     simp -implicitDefEqProofs [k31_7,-Int.natCast_add] at ih
     simp -implicitDefEqProofs [r31_7,k31_7,hii,ph,DH_len,stP,ldP,ld,li,ap,sE,tr,w1,-Int.natCast_add,-List.all_eq_true]
     exact ih
    | false =>
     generalize phR.enc p=LP at *
     have sD2:∀ X,storeT (some 2) (DH lot s4 ps++X) 0 (.agg ⟨[.int .i64 0,.slice none 0 0]⟩) (.pointer (some ⟨0,0,none⟩))=some (DH lot s4 ps++X):=fun X=>st0 _
     simp -implicitDefEqProofs [r31_7,k31_7,hii,ph,DH_len,stP,bD0,sD2,tr,-Int.natCast_add,-List.all_eq_true]
   ·have e0:n-i=0:=by omega
    have hii:¬ ((i:Nat):Int)<(n:Int):=by omega
    rw [e0]
    simp -implicitDefEqProofs [r31_7,k31_7,hii,phsX,trim_le,-Int.natCast_add]
end Go.Proofs.YtplebjehcgcdeaaGreatDoor.Bm
namespace Go.Proofs.YtplebjehcgcdeaaGreatDoor.Bm
open Go Go.RowKit
open Dw (encI encN encT encL)
theorem set_same {h:Heap} {b:Nat} {o:AObj} (hob:h[b]?=some o):h.set b o=h:=by
 apply List.ext_getElem?
 intro i
 rw [List.getElem?_set]
 by_cases e:b=i
 ·subst e
  rw [if_pos rfl,if_pos (ob_lt hob),hob]
 ·rw [if_neg e]
end Go.Proofs.YtplebjehcgcdeaaGreatDoor.Bm
namespace Go.Proofs.YtplebjehcgcdeaaGreatDoor.Bm
open Go Go.RowKit
open Dw (encI encN encT encL)
end Go.Proofs.YtplebjehcgcdeaaGreatDoor.Bm
namespace Go.Proofs.YtplebjehcgcdeaaGreatDoor.Bm
open Go Go.RowKit
open Dw (Vol Ent Phs Drw encI encN encT encL encV encE encP formB rightV)
structure PhOk (p:Phs):Prop where
 nv:p.vols.length≤40
 vs:∀ v∈p.vols,v.inR
 ng:p.gives.length≤30
 gs:∀ e∈p.gives,e.1.length≤20∧0≤e.2∧Dw.inR e.2
end Go.Proofs.YtplebjehcgcdeaaGreatDoor.Bm
namespace Go.Proofs.YtplebjehcgcdeaaGreatDoor.Bm
open Go Go.RowKit
open Dw (Vol Ent Phs Drw encI encN encT encL encV encE encP formB rightV)
end Go.Proofs.YtplebjehcgcdeaaGreatDoor.Bm
namespace Go.Proofs.YtplebjehcgcdeaaGreatDoor.Bm
open Go Go.RowKit
open Dw (Vol Ent Phs Drw)
theorem ao_cons (b:Bool) (r:List (Option Bool)) (c:Bool) (h:allOf r=some c):allOf (some b :: r)=some (b && c):=by cases b <;> simp [allOf,h]
theorem ao_nil:allOf []=some true:=rfl
end Go.Proofs.YtplebjehcgcdeaaGreatDoor.Bm
namespace Go.Proofs.YtplebjehcgcdeaaGreatDoor.Bm
open Go Go.RowKit
def topE (E:Env) (g:FuncId→Option (List Value→Heap→Nat→Res)):Env:={ E with orc:=g,dm:=false }
section
variable {E:Env} {g:FuncId→Option (List Value→Heap→Nat→Res)}
theorem top_with {sl draw:Bool} {ops:Array Oper}:withStrict (topE E g) sl draw ops=withStrict E sl draw ops:=rfl
theorem top_race {sl:Bool} {ops:Array Oper}:withRace (topE E g) sl ops=withRace E sl ops:=rfl
theorem top_rc {f:FuncId}:∀ (c:Code),rcOf (topE E g) f c=rcOf E f c:=by
 intro c
 induction c with
 | seq a b iha ihb=>simp only [rcOf,iha,ihb]
 | cond x a b iha ihb=>simp only [rcOf,iha,ihb]
 | block i a ih=>simp only [rcOf,ih]
 | loop a ih=>simp only [rcOf,ih];rfl
 | scope a ih=>simp only [rcOf,ih]
 | region id ops draw=>simp only [rcOf,top_with,top_race];rfl
 | _=>rfl
theorem top_fn {f:FuncId}:rfnOf (topE E g) f=rfnOf E f:=by
 simp only [rfnOf,top_rc];rfl
end
end Go.Proofs.YtplebjehcgcdeaaGreatDoor.Bm
