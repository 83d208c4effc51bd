/-
 Chapter 19: plans, lots and rectangles as the laws' arguments. Conditions: none.
-/
import Derived.Test.YtplebjehcgcdeaaGreatDoorQU29
import Derived.Test.YtplebjehcgcdeaaGreatDoorQU30
import Derived.Test.YtplebjehcgcdeaaGreatDoorQU16
namespace Go.Proofs.YtplebjehcgcdeaaGreatDoor.Bm
open Go Go.RowKit
open Dw (Vol Ent Phs Drw rightV formB)
open Rg (Rect)
theorem plan_reify (p:PlD) (h:Heap):reify E.P 8 h (.agg ⟨planL p⟩)=some (.agg ⟨planL p⟩):=rfl
theorem lot_reify {id ow:Int} {k:Option Bool} {A:List Rect} {f:Option (List Value)} (h:Heap):reify E.P 8 h (.agg ⟨lotL id ow k A f⟩)=some (.agg ⟨lotL id ow k A f⟩):=by
 rw [reify_agg,reifyC_set lot_set];rfl
theorem bLotx {z:Int} {x:List Value}:buildT (.fs ⟨[.int .i64 0,.int .i64 0,.slice none 0 0,.slice none 0 0]⟩ ⟨[(0,1),(1,1),(2,1),(3,1)]⟩) #[(0,.int .i64 z),(2,lst false x)]=some (.agg ⟨[.int .i64 z,.int .i64 0,lst false x,.slice none 0 0]⟩):=by kernel_rfl
theorem opR_cases (f:Bool→Bool→Bool) (a b:List Rect):(∃ l,opR f a b=.ok l)∨∃ z,opR f a b=.error z∧¬ z=0:=by
 unfold opR limR
 split
 ·split
  ·exact .inl ⟨_,rfl⟩
  ·exact .inr ⟨_,rfl,by decide⟩
 ·exact .inr ⟨_,rfl,by decide⟩
def wantD (p:PlD) (A:List Rect) (d:Drw):Bool:=d.all.all (fun v=>insB A (rcO v)) && d.phs.all fun q=>q.gives.all (hasC p.caps)
set_option maxHeartbeats 2000000 in
theorem inside_law (p:PlD) (id ow:Int) (A:List Rect) (xs:List Value) (d:Drw) (hd:Held d) (m:Rect):∃ h',L E 8 [.agg ⟨planL p⟩,.agg ⟨lotL id ow (some false) A (some xs)⟩,drV (some false) d,.agg ⟨rectR.enc m⟩] [] 0=some (.bool true,h'):=by
 have sm:=small_pure
 have fd:pureCall E.P (L E) 12 [drV (some false) d]=some (.bool (fewB d)):=few_pure (some false) d Rec.ok_some hd
 have hrP:=plan_reify p
 have hrD:∀ h,reify E.P 8 h (drV (some false) d)=some (drV (some false) d):=dr_reify d
 have hsD:settled 8 (drV (some false) d)=true:=by
  show ([_,_]:List Value).all (settled 7)=true
  simp only [List.all_cons,List.all_nil,Bool.and_true,Bool.and_eq_true]
  exact ⟨rfl,Rec.o_set⟩
 have b1:aBox [] tPl (.agg ⟨planL p⟩)=some (.pointer (some ⟨0,0,none⟩),[.cells tPl (planL p) 0]):=rfl
 have b2:∀ X,aBox X tLo (.agg ⟨lotL id ow (some false) A (some xs)⟩)=some (.pointer (some ⟨X.length,0,none⟩),X++[.cells tLo (lotL id ow (some false) A (some xs)) 0]):=fun X=>rfl
 have b3:∀ X,aBox X tD (drV (some false) d)=some (.pointer (some ⟨X.length,0,none⟩),X++[.cells tD [.int .i64 d.lot,phR.o (some false) d.phs] 0]):=fun X=>rfl
 have b4:∀ X,aBox X 56 (.agg ⟨rectR.enc m⟩)=some (.pointer (some ⟨X.length,0,none⟩),X++[.cells 56 (rectR.enc m) 0]):=fun X=>rfl
 obtain ⟨P0,hP0⟩:∃ A,AObj.cells tPl (planL p) 0=A:=⟨_,rfl⟩
 obtain ⟨L0,hL0⟩:∃ B,AObj.cells tLo (lotL id ow (some false) A (some xs)) 0=B:=⟨_,rfl⟩
 obtain ⟨L1,hL1⟩:∃ B,AObj.cells tLo (lotL d.lot ow (some false) A (some xs)) 0=B:=⟨_,rfl⟩
 obtain ⟨D0,hD0⟩:∃ A,AObj.cells tD [.int .i64 d.lot,phR.o (some false) d.phs] 0=A:=⟨_,rfl⟩
 obtain ⟨M0,hM0⟩:∃ A,AObj.cells 56 (rectR.enc m) 0=A:=⟨_,rfl⟩
 rw [hP0] at b1
 rw [hL0] at b2
 rw [hD0] at b3
 rw [hM0] at b4
 have lC:∀ X,loadT ⟨some false,some 1⟩ (P0 :: X) (.pointer (some ⟨0,4,none⟩))=some (lst false (capsR.vals p.caps)):=fun X=>by rw [← hP0];exact obj_load (j:=4) (t:=tPl) (c:=planL p) rfl rfl
 have lA:∀ Y X,loadT ⟨some false,some 1⟩ (Y :: L0 :: X) (.pointer (some ⟨1,2,none⟩))=some (lst false (rectR.vals A)):=fun Y X=>by rw [← hL0];exact obj_load (j:=2) (t:=tLo) (c:=lotL id ow (some false) A (some xs)) rfl rfl
 have lA1:∀ Y X,loadT ⟨some false,some 1⟩ (Y :: L1 :: X) (.pointer (some ⟨1,2,none⟩))=some (lst false (rectR.vals A)):=fun Y X=>by rw [← hL1];exact obj_load (j:=2) (t:=tLo) (c:=lotL d.lot ow (some false) A (some xs)) rfl rfl
 have lL:∀ Y Z X,loadT ⟨some false,some 1⟩ (Y :: Z :: D0 :: X) (.pointer (some ⟨2,0,none⟩))=some (.int .i64 d.lot):=fun Y Z X=>by rw [← hD0];exact obj_load (j:=0) (t:=tD) (c:=[.int .i64 d.lot,phR.o (some false) d.phs]) rfl rfl
 have lP:∀ Y Z X,loadT ⟨some false,some 1⟩ (Y :: Z :: D0 :: X) (.pointer (some ⟨2,1,none⟩))=some (phR.o (some false) d.phs):=fun Y Z X=>by rw [← hD0];exact obj_load (j:=1) (t:=tD) (c:=[.int .i64 d.lot,phR.o (some false) d.phs]) rfl rfl
 have lD:∀ Y Z X,loadT ⟨some true,some 2⟩ (Y :: Z :: D0 :: X) (.pointer (some ⟨2,0,none⟩))=some (drV (some false) d):=fun Y Z X=>by rw [← hD0];exact obj_all (n:=2) (t:=tD) (c:=[.int .i64 d.lot,phR.o (some false) d.phs]) rfl rfl
 have lcp:∀ h,lenT .sl h (lst false (capsR.vals p.caps))=some (.int .i64 p.caps.length):=fun h=>Rec.tree_len
 have lar:∀ h,lenT .sl h (lst false (rectR.vals A))=some (.int .i64 A.length):=fun h=>Rec.tree_len
 have hrA:∀ h,reify E.P 8 h (lst false (rectR.vals A))=some (lst false (rectR.vals A)):=fun h=>rfl
 have hsA:settled 8 (lst false (rectR.vals A))=true:=rfl
 rw [L_fn F8 rfl]
 cases hfd:fewB d with
 | false =>
  rw [hfd] at fd
  refine ⟨[P0,L0,D0,M0],?_⟩
  generalize planL p=PL at *
  generalize lotL id ow (some false) A (some xs)=LL' at *
  generalize drV (some false) d=DV at *
  generalize rectR.enc m=ME at *
  simp -implicitDefEqProofs [r8,p8,b1,b2,b3,b4,ret0 m11,sm,lD,hrD,ret0 m12,fd,-aBox_eq]
 | true =>
 rw [hfd] at fd
 have kd:=few_of hfd
 by_cases c1:p.caps.length≤40
 case neg =>
  have c1':40<(p.caps.length:Int):=by omega
  refine ⟨[P0,L0,D0,M0],?_⟩
  generalize lst false (capsR.vals p.caps)=CV at *
  generalize planL p=PL at *
  generalize lotL id ow (some false) A (some xs)=LL' at *
  generalize drV (some false) d=DV at *
  generalize rectR.enc m=ME at *
  simp -implicitDefEqProofs [r8,p8,b1,b2,b3,b4,ret0 m11,sm,lD,hrD,ret0 m12,fd,lC,lcp,c1',-aBox_eq]
 have c1':¬ 40<(p.caps.length:Int):=by omega
 by_cases c2:A.length≤30
 case neg =>
  have c2':30<(A.length:Int):=by omega
  refine ⟨[P0,L0,D0,M0],?_⟩
  generalize lst false (capsR.vals p.caps)=CV at *
  generalize lst false (rectR.vals A)=AV at *
  generalize planL p=PL at *
  generalize lotL id ow (some false) A (some xs)=LL' at *
  generalize drV (some false) d=DV at *
  generalize rectR.enc m=ME at *
  simp -implicitDefEqProofs [r8,p8,b1,b2,b3,b4,ret0 m11,sm,lD,hrD,ret0 m12,fd,lC,lcp,lA,lar,c1',c2',-aBox_eq]
 have c2':¬ 30<(A.length:Int):=by omega
 have rr:=right2_spec (some false) A (fun h=>by cases h) (by omega)
 change pureCall _ _ _ [lst false (rectR.vals A)]=_ at rr
 cases hR:regB A with
 | false =>
  rw [hR] at rr
  refine ⟨[P0,L0,D0,M0],?_⟩
  generalize lst false (capsR.vals p.caps)=CV at *
  generalize lst false (rectR.vals A)=AV at *
  generalize planL p=PL at *
  generalize lotL id ow (some false) A (some xs)=LL' at *
  generalize drV (some false) d=DV at *
  generalize rectR.enc m=ME at *
  simp -implicitDefEqProofs [r8,p8,b1,b2,b3,b4,ret0 m11,sm,lD,hrD,ret0 m12,fd,lC,lcp,lA,lar,c1',c2',hrA,ret0 m37,rr,-aBox_eq]
 | true =>
 rw [hR] at rr
 have fo:=form_pure (some false) d Rec.ok_some (by have:=kd.phs;omega) (by have:=kd.vols;omega) kd.names
 cases hF:formB d with
 | false =>
  rw [hF] at fo
  refine ⟨[P0,L0,D0,M0],?_⟩
  generalize lst false (capsR.vals p.caps)=CV at *
  generalize lst false (rectR.vals A)=AV at *
  generalize planL p=PL at *
  generalize lotL id ow (some false) A (some xs)=LL' at *
  generalize drV (some false) d=DV at *
  generalize rectR.enc m=ME at *
  simp -implicitDefEqProofs [r8,p8,b1,b2,b3,b4,ret0 m11,sm,lD,hrD,ret0 m12,fd,lC,lcp,lA,lar,c1',c2',hrA,ret0 m37,rr,ret0 m21,fo,-aBox_eq]
 | true =>
 rw [hF] at fo
 have hlot:0≤d.lot∧d.lot≤1073741824:=by
  unfold formB at hF
  simp only [Bool.and_eq_true,decide_eq_true_eq] at hF
  exact ⟨hF.1.1.1.1.1.1.1,hF.1.1.1.1.1.1.2⟩
 have hright:∀ v∈d.all,rightV v=true:=by
  unfold formB at hF
  simp only [Bool.and_eq_true] at hF
  exact Dw.volsB_right _ _ hF.1.2
 have hpl:d.phs.length≤1000000:=by have:=kd.phs;omega
 have hvl:d.all.length≤1000000:=by have:=kd.vols;omega
 have vs:=vols_spec (some false) d 0 (d.phs.length:Int) Rec.ok_some hpl hvl
 rw [vfrom_all _ _ _ (by omega)] at vs
 change _=some (lst false (volR.vals d.all)) at vs
 have R1:=dright_pure p d.lot ow (some false) (some false) A (some xs) d (fun h=>by cases h) (by omega) (by omega) Rec.ok_some hpl hvl kd.names
 have eW:rightD p d.lot A d=wantD p A d:=by unfold rightD wantD;rw [hF,hR,decide_eq_true rfl];rfl
 rw [eW] at R1
 have R2:=dright_pure p (d.lot+1) 0 (some false) (some false) A none d (fun h=>by cases h) (by omega) (by omega) Rec.ok_some hpl hvl kd.names
 have e2:rightD p (d.lot+1) A d=false:=by
  have hne:¬ d.lot+1=d.lot:=by omega
  unfold rightD
  rw [hF,hR,decide_eq_false hne];rfl
 rw [e2] at R2
 have un:=union2_spec (some false) (some true) A [m] (fun h=>by cases h) (fun h=>by cases h) (by omega) (by show 1≤1000000;omega)
 change pureCall _ _ _ [lst false (rectR.vals A),lst true (rectR.vals [m])]=_ at un
 have R3:∀ Lr,opR orF A [m]=.ok Lr→wantD p A d=true→pureCall E.P (L E) 23 [.agg ⟨planL p⟩,.agg ⟨[.int .i64 d.lot,.int .i64 0,lst false (rectR.vals Lr),.slice none 0 0]⟩,drV (some false) d]=some (.bool true):=fun Lr ho hw=>by
  obtain ⟨q1,q2,q3⟩:=union_ins hR ho
  have:=dright_pure p d.lot 0 (some false) (some false) Lr none d (fun h=>by cases h) (by omega) (by omega) Rec.ok_some hpl hvl kd.names
  have e3:rightD p d.lot Lr d=true:=by
   unfold wantD at hw
   rw [Bool.and_eq_true] at hw
   unfold rightD
   rw [hF,q1,decide_eq_true rfl,hw.2]
   simp only [Bool.and_true,Bool.true_and]
   rw [List.all_eq_true]
   exact fun v hv=>q3 _ (rcO_ok (hright v hv)) (List.all_eq_true.1 hw.1 v hv)
  rw [e3] at this
  exact this
 have mn:=fun v (hv:v∈d.all)=>minus_ins (A:=A) (r:=rcO v) hR (rcO_ok (hright v hv))
 have m2:=fun v=>minus2_spec (some true) (some false) [rcO v] A (fun h=>by cases h) (fun h=>by cases h) (by show 1≤1000000;omega) (by omega)
 have lv:∀ h,lenT .sl h (lst false (volR.vals d.all))=some (.int .i64 d.all.length):=fun h=>Rec.tree_len
 have iv:=fun (i:Nat) (hi:i<d.all.length)=>Rec.index_tree (R:=volR) (h0:=9) (x:=false) (t:=tV) (k:=.i64) rfl hi
 have ll:∀ h,lenT .sl h (phR.o (some false) d.phs)=some (.int .i64 d.phs.length):=fun h=>Rec.o_len (fun h=>by cases h)
 have ix:=fun (i:Nat) (hi:i<d.phs.length)=>Rec.o_index (R:=phR) (k:=some false) (s:=2) (t:=tP) (kk:=.i64) rfl (fun h=>by cases h) hi
 have ic:=fun (i:Nat) (hi:i<p.caps.length)=>Rec.index_tree (R:=capsR) (h0:=4) (x:=false) (t:=tCap) (k:=.i64) rfl hi
 have st:storeT (some 1) [P0,L0,D0,M0] 0 (.int .i64 d.lot) (.pointer (some ⟨1,0,none⟩))=some [P0,L1,D0,M0]:=by
  rw [← hL0,← hL1]
  have:=obj_store (h:=[P0,.cells tLo (lotL id ow (some false) A (some xs)) 0,D0,M0]) (b:=1) (j:=0) (lo:=0) (t:=tLo) (c:=lotL id ow (some false) A (some xs)) (v:=.int .i64 d.lot) rfl (by simp [lotL]) (Nat.zero_le _) rfl
  unfold cAt at this
  rw [this];rfl
 have lI1:∀ Y X,loadT ⟨some false,some 1⟩ (Y :: L1 :: X) (.pointer (some ⟨1,0,none⟩))=some (.int .i64 d.lot):=fun Y X=>by rw [← hL1];exact obj_load (j:=0) (t:=tLo) (c:=lotL d.lot ow (some false) A (some xs)) rfl rfl
 have lG1:∀ Y X,loadT ⟨some true,some 4⟩ (Y :: L1 :: X) (.pointer (some ⟨1,0,none⟩))=some (.agg ⟨lotL d.lot ow (some false) A (some xs)⟩):=fun Y X=>by rw [← hL1];exact obj_all (n:=4) (t:=tLo) (c:=lotL d.lot ow (some false) A (some xs)) rfl rfl
 have lGP:∀ X,loadT ⟨some true,some 8⟩ (P0 :: X) (.pointer (some ⟨0,0,none⟩))=some (.agg ⟨planL p⟩):=fun X=>by rw [← hP0];exact obj_all (n:=8) (t:=tPl) (c:=planL p) rfl rfl
 have lM:∀ X Y Z W,loadT ⟨some true,some 4⟩ (X :: Y :: Z :: M0 :: W) (.pointer (some ⟨3,0,none⟩))=some (.agg ⟨rectR.enc m⟩):=fun X Y Z W=>by rw [← hM0];exact obj_all (n:=4) (t:=56) (c:=rectR.enc m) rfl rfl
 have lim:∀ h,buildSliceT (some elR1) false h 1 #[(0,.agg ⟨rectR.enc m⟩)]=some (lst true (rectR.vals [m]),h):=fun h=>lit_rct h m
 have rl1:=fun h=>lot_reify (id:=d.lot) (ow:=ow) (k:=some false) (A:=A) (f:=some xs) h
 have rl2:=fun h=>lot_reify (id:=d.lot+1) (ow:=0) (k:=some false) (A:=A) (f:=none) h
 have rl3:=fun (Lr:List Rect) h=>lot_reify (id:=d.lot) (ow:=0) (k:=some false) (A:=Lr) (f:=none) h
 have bL1:buildT (.fs ⟨[.int .i64 0,.int .i64 0,.slice none 0 0,.slice none 0 0]⟩ ⟨[(0,1),(1,1),(2,1),(3,1)]⟩) #[(0,.int .i64 (d.lot+1)),(2,lst false (rectR.vals A))]=some (.agg ⟨lotL (d.lot+1) 0 (some false) A none⟩):=bLotx
 have bL3:∀ Lr,buildT (.fs ⟨[.int .i64 0,.int .i64 0,.slice none 0 0,.slice none 0 0]⟩ ⟨[(0,1),(1,1),(2,1),(3,1)]⟩) #[(0,.int .i64 d.lot),(2,lst false (rectR.vals Lr))]=some (.agg ⟨[.int .i64 d.lot,.int .i64 0,lst false (rectR.vals Lr),.slice none 0 0]⟩):=fun Lr=>bLotx
 have sM:settled 8 (lst true (rectR.vals [m]))=true:=rfl
 have w1:IntKind.i64.wrap (d.lot+1)=d.lot+1:=wrap64 (by omega) (by omega)
 have bV:∀ d' n,below (d'+1) n (lst false (volR.vals d.all))=true:=fun d' n=>rfl
 obtain ⟨N0,hN0⟩:∃ B,AObj.cells tLo (lotL (d.lot+1) 0 (some false) A none) 0=B:=⟨_,rfl⟩
 have stN:storeT (some 4) [P0,L1,D0,M0,.cells tLo [.int .i64 0,.int .i64 0,.slice none 0 0,.slice none 0 0] 0] 0 (.agg ⟨lotL (d.lot+1) 0 (some false) A none⟩) (.pointer (some ⟨4,0,none⟩))=some [P0,L1,D0,M0,N0]:=by
  rw [← hN0];exact snoc_put (g:=[P0,L1,D0,M0]) rfl rfl (by decide) (Nat.zero_le _)
 have lGN:loadT ⟨some true,some 4⟩ [P0,L1,D0,M0,N0] (.pointer (some ⟨4,0,none⟩))=some (.agg ⟨lotL (d.lot+1) 0 (some false) A none⟩):=by
  rw [← hN0];exact snoc_all (g:=[P0,L1,D0,M0]) rfl
 have eWD:wantD p A d=(d.all.all (fun v=>insB A (rcO v)) && d.phs.all fun q=>q.gives.all (hasC p.caps)):=rfl
 refine ⟨[P0,L1,D0,M0,N0],?_⟩
 generalize hCV:lst false (capsR.vals p.caps)=CV at *
 generalize hAV:lst false (rectR.vals A)=AV at *
 generalize planL p=PL at *
 generalize lotL id ow (some false) A (some xs)=LL' at *
 generalize lotL d.lot ow (some false) A (some xs)=LL1 at *
 generalize lotL (d.lot+1) 0 (some false) A none=LL2 at *
 generalize drV (some false) d=DV at *
 generalize rectR.enc m=ME at *
 generalize lst true (rectR.vals [m])=V1 at *
 generalize hVL:lst false (volR.vals d.all)=VL at *
 generalize hVP:phR.o (some false) d.phs=VP at *
 simp -implicitDefEqProofs [r8,p8,b1,b2,b3,b4,ret0 m11,sm,lD,hrD,hsD,ret0 m12,fd,lC,lcp,lA,lar,c1',c2',hrA,ret0 m37,rr,ret0 m21,fo,lL,st,lP,ll,ret1s m26,vs,-aBox_eq]
 have bA:∀ d' n,below (d'+1) n AV=true:=fun d' n=>by rw [← hAV];rfl
 have bP:∀ d' n,below (d'+1) n VP=true:=fun d' n=>by rw [← hVP];exact Rec.o_bel
 have hrd:∀ q∈d.phs,q.gives.length≤1000000:=fun q hq=>(kd.names q hq).1
 rw [LL_for (γ:=Bool) d.all true (fun i w=>[(11,.bool w),(12,.int .i64 (i:Int))]) (fun _ _=>[P0,L1,D0,M0]) (fun i rest w=>(.exit 0,[(11,.bool (w && rest.all fun v=>insB A (rcO v))),(12,undef)],[P0,L1,D0,M0])) (fun _ _=>True) (by omega) trivial]
 ·rw [Bool.true_and]
  obtain ⟨VA,hVA⟩:∃ b,(d.all.all fun v=>insB A (rcO v))=b:=⟨_,rfl⟩
  rw [hVA] at eWD ⊢
  simp -implicitDefEqProofs [k8_8]
  rw [LL_for (γ:=Bool) d.phs VA (fun i w=>[(11,.bool w),(15,.int .i64 (i:Int))]) (fun _ _=>[P0,L1,D0,M0]) (fun i rest w=>(.exit 2,[(11,.bool (w && rest.all fun q=>q.gives.all (hasC p.caps))),(15,undef)],[P0,L1,D0,M0])) (fun _ _=>True) (by omega) trivial]
  ·obtain ⟨GA,hGA⟩:∃ b,(d.phs.all fun q=>q.gives.all (hasC p.caps))=b:=⟨_,rfl⟩
   rw [hGA] at eWD ⊢
   rw [eWD] at R1 R3
   generalize (VA && GA)=W at *
   have nb:∀ b,aBin E.P .neq 4 (.bool b) (.bool b)=some (.bool false):=fun b=>by cases b <;> kernel_rfl
   have ho:=opR_cases orF A [m]
   rcases ho with ⟨Lr,ho⟩ | ⟨z,ho,hz⟩
   ·rw [ho] at un
    have R3:=R3 Lr ho
    have bL3:=bL3 Lr
    have rl3:=rl3 Lr
    change _=some (Value.tuple ⟨[lst false (rectR.vals Lr),.int .i64 0]⟩) at un
    change ∀ h,reify E.P 8 h (.agg ⟨[.int .i64 d.lot,.int .i64 0,lst false (rectR.vals Lr),.slice none 0 0]⟩)=some (.agg ⟨[.int .i64 d.lot,.int .i64 0,lst false (rectR.vals Lr),.slice none 0 0]⟩) at rl3
    have oL:one (lst false (rectR.vals Lr))=true:=rfl
    have rL:∀ h,reify E.P 8 h (lst false (rectR.vals Lr))=some (lst false (rectR.vals Lr)):=fun h=>rfl
    generalize lst false (rectR.vals Lr)=LV at *
    cases W with
    | false=>simp -implicitDefEqProofs [k8_13,lGP,lG1,lD,hrP,rl1,rl2,hrD,ret0 m23,R1,nb,R2,lI1,lA1,w1,bL1,stN,lGN,lM,lim,hsA,sM,ret1s m39,un,-reify_agg]
    | true =>
     have R3:=R3 rfl
     simp -implicitDefEqProofs [k8_13,lGP,lG1,lD,hrP,rl1,rl2,rl3,hrD,ret0 m23,R1,nb,R2,R3,lI1,lA1,w1,bL1,bL3,stN,lGN,lM,lim,hsA,sM,ret1s m39,un,-reify_agg]
   ·rw [ho] at un
    change _=some (Value.tuple ⟨[.slice none 0 0,.int .i64 z]⟩) at un
    cases W with
    | false=>simp -implicitDefEqProofs [k8_13,lGP,lG1,lD,hrP,rl1,rl2,hrD,ret0 m23,R1,nb,R2,lI1,lA1,w1,bL1,stN,lGN,lM,lim,hsA,sM,ret1s m39,un,hz,-reify_agg]
    | true=>simp -implicitDefEqProofs [k8_13,lGP,lG1,lD,hrP,rl1,rl2,hrD,ret0 m23,R1,nb,R2,lI1,lA1,w1,bL1,stN,lGN,lM,lim,hsA,sM,ret1s m39,un,hz,-reify_agg]
  ·simp -implicitDefEqProofs [k8_13]
  ·rfl
  ·intro nx i w hi _
   simp -implicitDefEqProofs [r8_13,k8_13,hi,lP,ll,trim_le]
  ·intro nx i q rest w hi hv2 hd2 hw _ ih
   have xi:=ix i hi
   rw [hv2,ph_val] at xi
   have hii:((i:Nat):Int)<(d.phs.length:Int):=by omega
   have hgl:=hrd q (by rw [← hv2];exact List.getElem_mem hi)
   have ih:=ih (w && q.gives.all (hasC p.caps)) trivial
   have eA:(w && (q :: rest).all fun q=>q.gives.all (hasC p.caps))=((w && q.gives.all (hasC p.caps)) && rest.all fun q=>q.gives.all (hasC p.caps)):=by rw [List.all_cons,Bool.and_assoc]
   rw [eA]
   obtain ⟨qv,qg⟩:=q
   simp only at xi hgl ih ⊢
   have f1:fieldAddrT ⟨some true,some 2⟩ (some (1,⟨some false,some 1⟩)) (cptr (.agg ⟨[lst false (volR.vals qv),lst false (entR.vals qg)]⟩))=some (cptr (lst false (entR.vals qg))):=rfl
   have lf:∀ h,loadT ⟨some false,some 1⟩ h (cptr (lst false (entR.vals qg)))=some (lst false (entR.vals qg)):=fun h=>rfl
   have lg:∀ h,lenT .sl h (lst false (entR.vals qg))=some (.int .i64 qg.length):=fun h=>Rec.tree_len
   have ig:=fun (j:Nat) (hj:j<qg.length)=>Rec.index_tree (R:=entR) (h0:=2) (x:=false) (t:=tE) (k:=.i64) rfl hj
   obtain ⟨RA,hRA⟩:∃ b,((w && qg.all (hasC p.caps)) && rest.all fun q=>q.gives.all (hasC p.caps))=b:=⟨_,rfl⟩
   rw [hRA] at ih ⊢
   generalize lst false (volR.vals qv)=VW at *
   generalize lst false (entR.vals qg)=VG at *
   simp -implicitDefEqProofs [r8_13,k8_13,hii,lP,ll]
   rw [LL_for (γ:=Bool) qg w (fun j w=>[(11,.bool w),(16,.int .i64 (j:Int))]) (fun _ _=>[P0,L1,D0,M0]) (fun j rest w=>(.exit 4,[(11,.bool (w && rest.all (hasC p.caps))),(16,undef)],[P0,L1,D0,M0])) (fun _ _=>True) (by omega) trivial]
   ·generalize (w && qg.all (hasC p.caps))=B at *
    simp -implicitDefEqProofs [k8_13] at ih
    simp -implicitDefEqProofs [k8_16,hw,trim_le]
    exact ih
   ·simp -implicitDefEqProofs [k8_16]
   ·rfl
   ·intro nx j w hj _
    simp -implicitDefEqProofs [r8_16,k8_16,hj,lP,xi,f1,lf,lg,trim_le]
   ·intro nx j e rst w hj hvv hdd hww _ ihe
    have xg:=ig j hj
    rw [hvv] at xg
    have hjj:((j:Nat):Int)<(qg.length:Int):=by omega
    have fe:fieldAddrT ⟨some true,some 2⟩ (some (0,⟨some false,some 1⟩)) (cptr (entR.val e))=some (cptr (.string ⟨⟨e.1⟩⟩)):=rfl
    have ihe:=ihe (w && hasC p.caps e) trivial
    have eA:(w && (e :: rst).all (hasC p.caps))=((w && hasC p.caps e) && rst.all (hasC p.caps)):=by rw [List.all_cons,Bool.and_assoc]
    rw [eA]
    obtain ⟨RB,hRB⟩:∃ b,((w && hasC p.caps e) && rst.all (hasC p.caps))=b:=⟨_,rfl⟩
    rw [hRB] at ihe ⊢
    generalize entR.val e=VE at *
    simp -implicitDefEqProofs [r8_16,k8_16,hjj,lP,xi,f1,lf,lg]
    rw [LL_for (γ:=Bool) p.caps false (fun n b=>[(17,.bool b),(18,.int .i64 (n:Int))]) (fun _ _=>[P0,L1,D0,M0]) (fun n rest b=>(.exit 6,[(17,.bool (b || hasC rest e)),(18,undef)],[P0,L1,D0,M0])) (fun _ _=>True) (by omega) trivial]
    ·rw [Bool.false_or]
     cases hh:hasC p.caps e with
     | false =>
      rw [hh] at ihe
      cases w with
      | false =>
       simp -implicitDefEqProofs [k8_16] at ihe
       simp -implicitDefEqProofs [k8_20,hww,trim_le]
       exact ihe
      | true =>
       simp -implicitDefEqProofs [k8_16] at ihe
       simp -implicitDefEqProofs [k8_16,k8_20,hww,trim_le]
       exact ihe
     | true =>
      rw [hh] at ihe
      cases w with
      | false =>
       simp -implicitDefEqProofs [k8_16] at ihe
       simp -implicitDefEqProofs [k8_16,k8_20,hww,trim_le]
       exact ihe
      | true =>
       simp -implicitDefEqProofs [k8_16] at ihe
       simp -implicitDefEqProofs [k8_16,k8_20,hww,trim_le]
       exact ihe
    ·simp -implicitDefEqProofs [k8_20]
    ·rfl
    ·intro nx n b hn _
     simp -implicitDefEqProofs [r8_20,k8_20,hn,lC,lcp,trim_le,hasC]
    ·intro nx n c rs b hn hvc hdc hwn _ ihn
     have xc:=ic n hn
     rw [hvc] at xc
     have hnn:((n:Nat):Int)<(p.caps.length:Int):=by omega
     have fc:fieldAddrT ⟨some true,some 4⟩ (some (0,⟨some false,some 1⟩)) (cptr (capsR.val c))=some (cptr (.string ⟨⟨c.name⟩⟩)):=rfl
     have ihn:=ihn (b || decide (c.name=e.1)) trivial
     have eA:(b || hasC (c :: rs) e)=((b || decide (c.name=e.1)) || hasC rs e):=by
      show (b || (decide (c.name=e.1) || hasC rs e))=_
      rw [Bool.or_assoc]
     rw [eA]
     obtain ⟨RC,hRC⟩:∃ x,((b || decide (c.name=e.1)) || hasC rs e)=x:=⟨_,rfl⟩
     rw [hRC] at ihn ⊢
     generalize capsR.val c=VC at *
     cases b with
     | true =>
      simp -implicitDefEqProofs [k8_20] at ihn
      simp -implicitDefEqProofs [r8_20,k8_20,hnn,lC,lcp,hwn,trim_le]
      exact ihn
     | false =>
      by_cases hq:c.name=e.1
      ·rw [decide_eq_true hq] at ihn
       simp -implicitDefEqProofs [k8_20] at ihn
       simp -implicitDefEqProofs [r8_20,k8_20,hnn,lC,lcp,xc,fc,lP,xi,f1,lf,xg,fe,hq,hwn,trim_le]
       exact ihn
      ·rw [decide_eq_false hq] at ihn
       simp -implicitDefEqProofs [k8_20] at ihn
       simp -implicitDefEqProofs [r8_20,k8_20,hnn,lC,lcp,xc,fc,lP,xi,f1,lf,xg,fe,hq,hwn,trim_le]
       exact ihn
 ·simp -implicitDefEqProofs [k8_8]
 ·rfl
 ·intro nx i w hi _
  simp -implicitDefEqProofs [r8_8,k8_8,hi,lv,trim_le]
 ·intro nx i v rest w hi hv2 hd2 hw _ ih
  have xi:=iv i hi
  rw [hv2] at xi
  have hmem:v∈d.all:=by rw [← hv2];exact List.getElem_mem hi
  have mv:=mn v hmem
  have m2v:=m2 v
  change pureCall _ _ _ [lst true (rectR.vals [rcO v]),lst false (rectR.vals A)]=_ at m2v
  rw [hAV] at m2v
  have ih:=ih (w && insB A (rcO v)) trivial
  have hii:((i:Nat):Int)<(d.all.length:Int):=by omega
  have eA:(w && (v :: rest).all fun v=>insB A (rcO v))=((w && insB A (rcO v)) && rest.all fun v=>insB A (rcO v)):=by rw [List.all_cons,Bool.and_assoc]
  rw [eA]
  obtain ⟨RA,hRA⟩:∃ b,((w && insB A (rcO v)) && rest.all fun v=>insB A (rcO v))=b:=⟨_,rfl⟩
  rw [hRA] at ih ⊢
  have li:∀ h,buildSliceT (some elR1) false h 1 #[(0,.agg ⟨[.int .i64 v.x0,.int .i64 v.y0,.int .i64 v.x1,.int .i64 v.y1]⟩)]=some (lst true (rectR.vals [rcO v]),h):=fun h=>lit_rct h (rcO v)
  have sV2:settled 8 (lst true (rectR.vals [rcO v]))=true:=rfl
  have hrB:∃ b,insB A (rcO v)=b:=⟨_,rfl⟩
  obtain ⟨b,hb⟩:=hrB
  rw [hb] at mv ih
  change _=some (cptr (.agg ⟨[.int .i64 v.x0,.int .i64 v.y0,.int .i64 v.x1,.int .i64 v.y1,.int .i64 v.z0,.int .i64 v.z1,.int .i64 v.use,.int .i64 v.units,.bool v.extra]⟩)) at xi
  rw [mv] at m2v
  generalize lst true (rectR.vals [rcO v])=V2 at *
  cases b with
  | true =>
   rw [if_pos rfl] at m2v
   change _=some (Value.tuple ⟨[lst false (rectR.vals []),.int .i64 0]⟩) at m2v
   have l0:∀ h,lenT .sl h (lst false (rectR.vals []))=some (.int .i64 0):=fun h=>Rec.tree_len
   generalize lst false (rectR.vals [])=V0 at *
   cases w with
   | true =>
    simp -implicitDefEqProofs [k8_8] at ih
    simp -implicitDefEqProofs [r8_8,k8_8,hii,lv,xi,li,lA1,hsA,sV2,ret1s m38,m2v,l0,hw,trim_le]
    exact ih
   | false =>
    simp -implicitDefEqProofs [k8_8] at ih
    simp -implicitDefEqProofs [r8_8,k8_8,hii,lv,xi,li,lA1,hsA,sV2,ret1s m38,m2v,hw,trim_le]
    exact ih
  | false =>
   rw [if_neg (by decide)] at m2v
   rw [Bool.and_false] at ih
   by_cases h200:(Rg.opL subF [rcO v] A).length≤200
   ·rw [if_pos h200] at m2v
    change _=some (Value.tuple ⟨[lst false (rectR.vals (Rg.opL subF [rcO v] A)),.int .i64 0]⟩) at m2v
    have hne:¬ Rg.opL subF [rcO v] A=[]:=by unfold insB at hb;exact of_decide_eq_false hb
    have l0:∀ h,lenT .sl h (lst false (rectR.vals (Rg.opL subF [rcO v] A)))=some (.int .i64 (Rg.opL subF [rcO v] A).length):=fun h=>Rec.tree_len
    have hn0:¬ (Rg.opL subF [rcO v] A).length=0:=by
     have:=List.length_pos_iff.2 hne
     omega
    generalize (Rg.opL subF [rcO v] A).length=NL at *
    generalize lst false (rectR.vals (Rg.opL subF [rcO v] A))=V0 at *
    cases w with
    | true =>
     simp -implicitDefEqProofs [k8_8] at ih
     simp -implicitDefEqProofs [r8_8,k8_8,hii,lv,xi,li,lA1,hsA,sV2,ret1s m38,m2v,l0,hn0,hw,trim_le]
     exact ih
    | false =>
     simp -implicitDefEqProofs [k8_8] at ih
     simp -implicitDefEqProofs [r8_8,k8_8,hii,lv,xi,li,lA1,hsA,sV2,ret1s m38,m2v,hw,trim_le]
     exact ih
   ·rw [if_neg h200] at m2v
    change _=some (Value.tuple ⟨[.slice none 0 0,.int .i64 6]⟩) at m2v
    cases w with
    | true =>
     simp -implicitDefEqProofs [k8_8] at ih
     simp -implicitDefEqProofs [r8_8,k8_8,hii,lv,xi,li,lA1,hsA,sV2,ret1s m38,m2v,hw,trim_le]
     exact ih
    | false =>
     simp -implicitDefEqProofs [k8_8] at ih
     simp -implicitDefEqProofs [r8_8,k8_8,hii,lv,xi,li,lA1,hsA,sV2,ret1s m38,m2v,hw,trim_le]
     exact ih
end Go.Proofs.YtplebjehcgcdeaaGreatDoor.Bm
namespace Go.Proofs.YtplebjehcgcdeaaGreatDoor.Bm
open Go Go.RowKit
open Dw (Vol Ent Phs Drw)
abbrev tBx:TypeId:=58
abbrev tRc:TypeId:=56
theorem fsR9:fsOf E.P tRc=some [(0,3),(1,3),(2,3),(3,3)]:=by kernel_rfl
theorem fsX9:fsOf E.P tBx=some [(0,tRc),(4,3),(5,3)]:=by kernel_rfl
theorem fsV9:fsOf E.P tV=some [(0,tBx),(6,3),(7,3),(8,4)]:=by kernel_rfl
theorem fsE9:fsOf E.P tE=some [(0,9),(1,3)]:=by kernel_rfl
theorem fsP9:fsOf E.P tP=some [(0,52),(1,76)]:=by kernel_rfl
theorem fsD9:fsOf E.P tD=some [(0,3),(1,35)]:=by kernel_rfl
theorem nR9:E.P.cellsOf tRc=4:=by kernel_rfl
theorem nX9:E.P.cellsOf tBx=6:=by kernel_rfl
theorem nV9:E.P.cellsOf tV=9:=by kernel_rfl
theorem nE9:E.P.cellsOf tE=2:=by kernel_rfl
theorem nP9:E.P.cellsOf tP=2:=by kernel_rfl
theorem nD9:E.P.cellsOf tD=2:=by kernel_rfl
theorem ni9:E.P.cellsOf 3=1:=by kernel_rfl
theorem nb9:E.P.cellsOf 4=1:=by kernel_rfl
theorem ns9:E.P.cellsOf 9=1:=by kernel_rfl
theorem nvs9:E.P.cellsOf 52=1:=by kernel_rfl
theorem nes9:E.P.cellsOf 76=1:=by kernel_rfl
theorem nps9:E.P.cellsOf 35=1:=by kernel_rfl
theorem ui9:E.P.underlying 3=some (.int .i64):=by kernel_rfl
theorem ub9:E.P.underlying 4=some .bool:=by kernel_rfl
theorem us9:E.P.underlying 9=some .string:=by kernel_rfl
theorem uvs9:E.P.underlying 52=some (.slice tV):=by kernel_rfl
theorem ues9:E.P.underlying 76=some (.slice tE):=by kernel_rfl
theorem ups9:E.P.underlying 35=some (.slice tP):=by kernel_rfl
theorem bV9:E.P.bytesOf tV=72:=by kernel_rfl
theorem bE9:E.P.bytesOf tE=24:=by kernel_rfl
theorem bP9:E.P.bytesOf tP=48:=by kernel_rfl
theorem gV9:aggT E.P tV=some true:=by kernel_rfl
theorem gE9:aggT E.P tE=some true:=by kernel_rfl
theorem gP9:aggT E.P tP=some true:=by kernel_rfl
theorem gD9:aggT E.P tD=some true:=by kernel_rfl
theorem vol_of {n:Nat} {c:List Value} (h:Wt E.P n tV c):∃ v:Vol,c=volR.enc v:=by
 obtain ⟨hl,hf⟩:=wt_struct fsV9 h
 rw [nV9] at hl
 obtain ⟨a0,c,rfl⟩:=List.exists_cons_of_length_eq_add_one hl;have hl:=Nat.succ.inj hl
 obtain ⟨a1,c,rfl⟩:=List.exists_cons_of_length_eq_add_one hl;have hl:=Nat.succ.inj hl
 obtain ⟨a2,c,rfl⟩:=List.exists_cons_of_length_eq_add_one hl;have hl:=Nat.succ.inj hl
 obtain ⟨a3,c,rfl⟩:=List.exists_cons_of_length_eq_add_one hl;have hl:=Nat.succ.inj hl
 obtain ⟨a4,c,rfl⟩:=List.exists_cons_of_length_eq_add_one hl;have hl:=Nat.succ.inj hl
 obtain ⟨a5,c,rfl⟩:=List.exists_cons_of_length_eq_add_one hl;have hl:=Nat.succ.inj hl
 obtain ⟨a6,c,rfl⟩:=List.exists_cons_of_length_eq_add_one hl;have hl:=Nat.succ.inj hl
 obtain ⟨a7,c,rfl⟩:=List.exists_cons_of_length_eq_add_one hl;have hl:=Nat.succ.inj hl
 obtain ⟨a8,c,rfl⟩:=List.exists_cons_of_length_eq_add_one hl;have hl:=Nat.succ.inj hl
 obtain rfl:=List.eq_nil_of_length_eq_zero hl
 obtain ⟨mx,qx⟩:=hf (0,tBx) (by simp)
 replace qx:Wt E.P mx tBx [a0,a1,a2,a3,a4,a5]:=by simpa [nX9] using qx
 obtain ⟨_,hx⟩:=wt_struct fsX9 qx
 obtain ⟨mr,qr⟩:=hx (0,tRc) (by simp)
 replace qr:Wt E.P mr tRc [a0,a1,a2,a3]:=by simpa [nR9] using qr
 obtain ⟨_,hr⟩:=wt_struct fsR9 qr
 obtain ⟨m0,q0⟩:=hr (0,3) (by simp)
 replace q0:Wt E.P m0 3 [a0]:=by simpa [ni9] using q0
 obtain ⟨m1,q1⟩:=hr (1,3) (by simp)
 replace q1:Wt E.P m1 3 [a1]:=by simpa [ni9] using q1
 obtain ⟨m2,q2⟩:=hr (2,3) (by simp)
 replace q2:Wt E.P m2 3 [a2]:=by simpa [ni9] using q2
 obtain ⟨m3,q3⟩:=hr (3,3) (by simp)
 replace q3:Wt E.P m3 3 [a3]:=by simpa [ni9] using q3
 obtain ⟨m4,q4⟩:=hx (4,3) (by simp)
 replace q4:Wt E.P m4 3 [a4]:=by simpa [ni9] using q4
 obtain ⟨m5,q5⟩:=hx (5,3) (by simp)
 replace q5:Wt E.P m5 3 [a5]:=by simpa [ni9] using q5
 obtain ⟨m6,q6⟩:=hf (6,3) (by simp)
 replace q6:Wt E.P m6 3 [a6]:=by simpa [ni9] using q6
 obtain ⟨m7,q7⟩:=hf (7,3) (by simp)
 replace q7:Wt E.P m7 3 [a7]:=by simpa [ni9] using q7
 obtain ⟨m8,q8⟩:=hf (8,4) (by simp)
 replace q8:Wt E.P m8 4 [a8]:=by simpa [nb9] using q8
 obtain ⟨z0,e,_⟩:=wt_int ui9 q0;obtain rfl:=List.singleton_inj.1 e
 obtain ⟨z1,e,_⟩:=wt_int ui9 q1;obtain rfl:=List.singleton_inj.1 e
 obtain ⟨z2,e,_⟩:=wt_int ui9 q2;obtain rfl:=List.singleton_inj.1 e
 obtain ⟨z3,e,_⟩:=wt_int ui9 q3;obtain rfl:=List.singleton_inj.1 e
 obtain ⟨z4,e,_⟩:=wt_int ui9 q4;obtain rfl:=List.singleton_inj.1 e
 obtain ⟨z5,e,_⟩:=wt_int ui9 q5;obtain rfl:=List.singleton_inj.1 e
 obtain ⟨z6,e,_⟩:=wt_int ui9 q6;obtain rfl:=List.singleton_inj.1 e
 obtain ⟨z7,e,_⟩:=wt_int ui9 q7;obtain rfl:=List.singleton_inj.1 e
 obtain ⟨z8,e⟩:=wt_bool ub9 q8;obtain rfl:=List.singleton_inj.1 e
 exact ⟨⟨z0,z1,z2,z3,z4,z5,z6,z7,z8⟩,rfl⟩
theorem ent_of {n:Nat} {c:List Value} (h:Wt E.P n tE c):∃ v:Ent,c=entR.enc v:=by
 obtain ⟨hl,hf⟩:=wt_struct fsE9 h
 rw [nE9] at hl
 obtain ⟨a0,c,rfl⟩:=List.exists_cons_of_length_eq_add_one hl;have hl:=Nat.succ.inj hl
 obtain ⟨a1,c,rfl⟩:=List.exists_cons_of_length_eq_add_one hl;have hl:=Nat.succ.inj hl
 obtain rfl:=List.eq_nil_of_length_eq_zero hl
 obtain ⟨m0,q0⟩:=hf (0,9) (by simp)
 replace q0:Wt E.P m0 9 [a0]:=by simpa [ns9] using q0
 obtain ⟨m1,q1⟩:=hf (1,3) (by simp)
 replace q1:Wt E.P m1 3 [a1]:=by simpa [ni9] using q1
 obtain ⟨⟨⟨s⟩⟩,e,_⟩:=wt_str us9 q0;obtain rfl:=List.singleton_inj.1 e
 obtain ⟨z1,e,_⟩:=wt_int ui9 q1;obtain rfl:=List.singleton_inj.1 e
 exact ⟨(s,z1),rfl⟩
theorem recs_of {α:Type} (R:Rec α) {t e:TypeId} {b:Nat} (ut:E.P.underlying t=some (.slice e)) (gt:aggT E.P e=some true) (hb:E.P.bytesOf e=b) {Q:α→Prop} (one:∀ {n:Nat} {c:List Value},Wt E.P n e c→∃ v:α,c=R.enc v∧Q v) {n:Nat} {c:List Value} (h:Wt E.P n t c) :
  ∃ l:List α,c=[lst false (R.vals l)]∧l.length * b≤reachBytes∧∀ x∈l,Q x:=by
 obtain ⟨ls,rfl,_,h2,h3⟩:=wt_sliceB ut h
 rw [hb] at h2
 obtain ⟨rs,rfl,k2⟩:=choose_list (cells:=R.enc) (Q:=Q) ls fun x hx=>by
  obtain ⟨m,hm⟩:=h3 x hx
  exact one hm
 refine ⟨rs,?_,by simpa using h2,k2⟩
 have e1:∀ l:List α,(l.map R.enc).map (elemV E.P e)=R.vals l:=by
  intro l
  induction l with
  | nil=>rfl
  | cons r l ih =>
   rw [List.map_cons,List.map_cons,ih]
   unfold elemV
   rw [if_pos gt]
   rfl
 rw [e1]
theorem ph_of {n:Nat} {c:List Value} (h:Wt E.P n tP c):∃ p:Phs,c=phR.enc p∧p.vols.length≤281474976710656∧p.gives.length≤281474976710656:=by
 obtain ⟨hl,hf⟩:=wt_struct fsP9 h
 rw [nP9] at hl
 obtain ⟨a0,c,rfl⟩:=List.exists_cons_of_length_eq_add_one hl;have hl:=Nat.succ.inj hl
 obtain ⟨a1,c,rfl⟩:=List.exists_cons_of_length_eq_add_one hl;have hl:=Nat.succ.inj hl
 obtain rfl:=List.eq_nil_of_length_eq_zero hl
 obtain ⟨m0,q0⟩:=hf (0,52) (by simp)
 replace q0:Wt E.P m0 52 [a0]:=by simpa [nvs9] using q0
 obtain ⟨m1,q1⟩:=hf (1,76) (by simp)
 replace q1:Wt E.P m1 76 [a1]:=by simpa [nes9] using q1
 obtain ⟨vs,e,k1,_⟩:=recs_of volR uvs9 gV9 bV9 (Q:=fun _=>True) (fun h=>(vol_of h).imp fun _ h=>⟨h,trivial⟩) q0
 obtain rfl:=List.singleton_inj.1 e
 obtain ⟨es,e,k2,_⟩:=recs_of entR ues9 gE9 bE9 (Q:=fun _=>True) (fun h=>(ent_of h).imp fun _ h=>⟨h,trivial⟩) q1
 obtain rfl:=List.singleton_inj.1 e
 unfold reachBytes at k1 k2
 exact ⟨⟨vs,es⟩,rfl,by show vs.length≤_;omega,by show es.length≤_;omega⟩
theorem drwV {n:Nat} {c:List Value} (h:Wt E.P n tD c):∃ d:Drw,elemV E.P tD c=drV (some false) d∧Held d:=by
 obtain ⟨hl,hf⟩:=wt_struct fsD9 h
 rw [nD9] at hl
 obtain ⟨a0,c,rfl⟩:=List.exists_cons_of_length_eq_add_one hl;have hl:=Nat.succ.inj hl
 obtain ⟨a1,c,rfl⟩:=List.exists_cons_of_length_eq_add_one hl;have hl:=Nat.succ.inj hl
 obtain rfl:=List.eq_nil_of_length_eq_zero hl
 obtain ⟨m0,q0⟩:=hf (0,3) (by simp)
 replace q0:Wt E.P m0 3 [a0]:=by simpa [ni9] using q0
 obtain ⟨m1,q1⟩:=hf (1,35) (by simp)
 replace q1:Wt E.P m1 35 [a1]:=by simpa [nps9] using q1
 obtain ⟨z,e,_⟩:=wt_int ui9 q0;obtain rfl:=List.singleton_inj.1 e
 obtain ⟨ps,e,k1,k2⟩:=recs_of phR ups9 gP9 bP9 ph_of q1
 obtain rfl:=List.singleton_inj.1 e
 unfold reachBytes at k1
 refine ⟨⟨z,ps⟩,?_,by show ps.length≤_;omega,k2⟩
 unfold elemV
 rw [if_pos gD9]
 rfl
end Go.Proofs.YtplebjehcgcdeaaGreatDoor.Bm
namespace Go.Proofs.YtplebjehcgcdeaaGreatDoor.Bm
open Go Go.RowKit
open Rg (Rect)
theorem fsPl:fsOf E.P tPl=some [(0,22),(1,23),(2,24),(3,25),(4,26),(5,27),(6,28),(7,3)]:=by kernel_rfl
theorem fsCa:fsOf E.P tCap=some [(0,9),(1,3),(2,3),(3,79)]:=by kernel_rfl
theorem fsLo:fsOf E.P tLo=some [(0,3),(1,3),(2,31),(3,32)]:=by kernel_rfl
theorem nPl:E.P.cellsOf tPl=8:=by kernel_rfl
theorem nCa:E.P.cellsOf tCap=4:=by kernel_rfl
theorem nLo:E.P.cellsOf tLo=4:=by kernel_rfl
theorem nS0:E.P.cellsOf 22=1∧E.P.cellsOf 23=1∧E.P.cellsOf 24=1∧E.P.cellsOf 25=1:=⟨by kernel_rfl,by kernel_rfl,by kernel_rfl,by kernel_rfl⟩
theorem nS1:E.P.cellsOf 26=1∧E.P.cellsOf 27=1∧E.P.cellsOf 28=1∧E.P.cellsOf 79=1:=⟨by kernel_rfl,by kernel_rfl,by kernel_rfl,by kernel_rfl⟩
theorem nS2:E.P.cellsOf 31=1∧E.P.cellsOf 32=1:=⟨by kernel_rfl,by kernel_rfl⟩
theorem uS0:E.P.underlying 22=some (.slice 326):=by kernel_rfl
theorem uS1:E.P.underlying 23=some (.slice 328):=by kernel_rfl
theorem uS2:E.P.underlying 24=some (.slice 330):=by kernel_rfl
theorem uS3:E.P.underlying 25=some (.slice 334):=by kernel_rfl
theorem uS4:E.P.underlying 26=some (.slice tCap):=by kernel_rfl
theorem uS5:E.P.underlying 27=some (.slice 338):=by kernel_rfl
theorem uS6:E.P.underlying 28=some (.slice 336):=by kernel_rfl
theorem uS7:E.P.underlying 79=some (.slice 340):=by kernel_rfl
theorem uS8:E.P.underlying 31=some (.slice tRc):=by kernel_rfl
theorem uS9:E.P.underlying 32=some (.slice 3):=by kernel_rfl
theorem gPl:aggT E.P tPl=some true:=by kernel_rfl
theorem gCa:aggT E.P tCap=some true:=by kernel_rfl
theorem gLo:aggT E.P tLo=some true:=by kernel_rfl
theorem gRc:aggT E.P tRc=some true:=by kernel_rfl
theorem byCa:E.P.bytesOf tCap=56:=by kernel_rfl
theorem byRc:E.P.bytesOf tRc=32:=by kernel_rfl
theorem sl_of {n:Nat} {t e:TypeId} {v:Value} (ut:E.P.underlying t=some (.slice e)) (h:Wt E.P n t [v]):∃ xs,v=lst false xs:=by
 obtain ⟨ls,e1,_⟩:=wt_slice ut h
 exact ⟨_,List.singleton_inj.1 e1⟩
theorem cap_of {n:Nat} {c:List Value} (h:Wt E.P n tCap c):∃ v:CapD,c=capsR.enc v:=by
 obtain ⟨hl,hf⟩:=wt_struct fsCa h
 rw [nCa] at hl
 obtain ⟨a0,c,rfl⟩:=List.exists_cons_of_length_eq_add_one hl;have hl:=Nat.succ.inj hl
 obtain ⟨a1,c,rfl⟩:=List.exists_cons_of_length_eq_add_one hl;have hl:=Nat.succ.inj hl
 obtain ⟨a2,c,rfl⟩:=List.exists_cons_of_length_eq_add_one hl;have hl:=Nat.succ.inj hl
 obtain ⟨a3,c,rfl⟩:=List.exists_cons_of_length_eq_add_one hl;have hl:=Nat.succ.inj hl
 obtain rfl:=List.eq_nil_of_length_eq_zero hl
 obtain ⟨m0,q0⟩:=hf (0,9) (by simp)
 replace q0:Wt E.P m0 9 [a0]:=by simpa [ns9] using q0
 obtain ⟨m1,q1⟩:=hf (1,3) (by simp)
 replace q1:Wt E.P m1 3 [a1]:=by simpa [ni9] using q1
 obtain ⟨m2,q2⟩:=hf (2,3) (by simp)
 replace q2:Wt E.P m2 3 [a2]:=by simpa [ni9] using q2
 obtain ⟨m3,q3⟩:=hf (3,79) (by simp)
 replace q3:Wt E.P m3 79 [a3]:=by simpa [nS1.2.2.2] using q3
 obtain ⟨⟨⟨s⟩⟩,e,_⟩:=wt_str us9 q0;obtain rfl:=List.singleton_inj.1 e
 obtain ⟨z1,e,_⟩:=wt_int ui9 q1;obtain rfl:=List.singleton_inj.1 e
 obtain ⟨z2,e,_⟩:=wt_int ui9 q2;obtain rfl:=List.singleton_inj.1 e
 obtain ⟨x3,rfl⟩:=sl_of uS7 q3
 exact ⟨⟨s,z1,z2,x3⟩,rfl⟩
theorem planV9 {n:Nat} {c:List Value} (h:Wt E.P n tPl c):∃ p:PlD,elemV E.P tPl c=.agg ⟨planL p⟩:=by
 obtain ⟨hl,hf⟩:=wt_struct fsPl h
 rw [nPl] at hl
 obtain ⟨a0,c,rfl⟩:=List.exists_cons_of_length_eq_add_one hl;have hl:=Nat.succ.inj hl
 obtain ⟨a1,c,rfl⟩:=List.exists_cons_of_length_eq_add_one hl;have hl:=Nat.succ.inj hl
 obtain ⟨a2,c,rfl⟩:=List.exists_cons_of_length_eq_add_one hl;have hl:=Nat.succ.inj hl
 obtain ⟨a3,c,rfl⟩:=List.exists_cons_of_length_eq_add_one hl;have hl:=Nat.succ.inj hl
 obtain ⟨a4,c,rfl⟩:=List.exists_cons_of_length_eq_add_one hl;have hl:=Nat.succ.inj hl
 obtain ⟨a5,c,rfl⟩:=List.exists_cons_of_length_eq_add_one hl;have hl:=Nat.succ.inj hl
 obtain ⟨a6,c,rfl⟩:=List.exists_cons_of_length_eq_add_one hl;have hl:=Nat.succ.inj hl
 obtain ⟨a7,c,rfl⟩:=List.exists_cons_of_length_eq_add_one hl;have hl:=Nat.succ.inj hl
 obtain rfl:=List.eq_nil_of_length_eq_zero hl
 obtain ⟨m0,q0⟩:=hf (0,22) (by simp)
 replace q0:Wt E.P m0 22 [a0]:=by simpa [nS0.1] using q0
 obtain ⟨m1,q1⟩:=hf (1,23) (by simp)
 replace q1:Wt E.P m1 23 [a1]:=by simpa [nS0.2.1] using q1
 obtain ⟨m2,q2⟩:=hf (2,24) (by simp)
 replace q2:Wt E.P m2 24 [a2]:=by simpa [nS0.2.2.1] using q2
 obtain ⟨m3,q3⟩:=hf (3,25) (by simp)
 replace q3:Wt E.P m3 25 [a3]:=by simpa [nS0.2.2.2] using q3
 obtain ⟨m4,q4⟩:=hf (4,26) (by simp)
 replace q4:Wt E.P m4 26 [a4]:=by simpa [nS1.1] using q4
 obtain ⟨m5,q5⟩:=hf (5,27) (by simp)
 replace q5:Wt E.P m5 27 [a5]:=by simpa [nS1.2.1] using q5
 obtain ⟨m6,q6⟩:=hf (6,28) (by simp)
 replace q6:Wt E.P m6 28 [a6]:=by simpa [nS1.2.2.1] using q6
 obtain ⟨m7,q7⟩:=hf (7,3) (by simp)
 replace q7:Wt E.P m7 3 [a7]:=by simpa [ni9] using q7
 obtain ⟨x0,rfl⟩:=sl_of uS0 q0
 obtain ⟨x1,rfl⟩:=sl_of uS1 q1
 obtain ⟨x2,rfl⟩:=sl_of uS2 q2
 obtain ⟨x3,rfl⟩:=sl_of uS3 q3
 obtain ⟨cs,e,_⟩:=recs_of capsR uS4 gCa byCa (Q:=fun _=>True) (fun h=>(cap_of h).imp fun _ h=>⟨h,trivial⟩) q4
 obtain rfl:=List.singleton_inj.1 e
 obtain ⟨x5,rfl⟩:=sl_of uS5 q5
 obtain ⟨x6,rfl⟩:=sl_of uS6 q6
 obtain ⟨z,e,_⟩:=wt_int ui9 q7;obtain rfl:=List.singleton_inj.1 e
 refine ⟨⟨x0,x1,x2,x3,cs,x5,x6,z⟩,?_⟩
 unfold elemV
 rw [if_pos gPl]
 rfl
theorem rect_of {n:Nat} {c:List Value} (h:Wt E.P n tRc c):∃ r:Rect,c=rectR.enc r:=by
 obtain ⟨hl,hf⟩:=wt_struct fsR9 h
 rw [nR9] at hl
 obtain ⟨a0,c,rfl⟩:=List.exists_cons_of_length_eq_add_one hl;have hl:=Nat.succ.inj hl
 obtain ⟨a1,c,rfl⟩:=List.exists_cons_of_length_eq_add_one hl;have hl:=Nat.succ.inj hl
 obtain ⟨a2,c,rfl⟩:=List.exists_cons_of_length_eq_add_one hl;have hl:=Nat.succ.inj hl
 obtain ⟨a3,c,rfl⟩:=List.exists_cons_of_length_eq_add_one hl;have hl:=Nat.succ.inj hl
 obtain rfl:=List.eq_nil_of_length_eq_zero hl
 obtain ⟨m0,q0⟩:=hf (0,3) (by simp)
 replace q0:Wt E.P m0 3 [a0]:=by simpa [ni9] using q0
 obtain ⟨m1,q1⟩:=hf (1,3) (by simp)
 replace q1:Wt E.P m1 3 [a1]:=by simpa [ni9] using q1
 obtain ⟨m2,q2⟩:=hf (2,3) (by simp)
 replace q2:Wt E.P m2 3 [a2]:=by simpa [ni9] using q2
 obtain ⟨m3,q3⟩:=hf (3,3) (by simp)
 replace q3:Wt E.P m3 3 [a3]:=by simpa [ni9] using q3
 obtain ⟨z0,e,_⟩:=wt_int ui9 q0;obtain rfl:=List.singleton_inj.1 e
 obtain ⟨z1,e,_⟩:=wt_int ui9 q1;obtain rfl:=List.singleton_inj.1 e
 obtain ⟨z2,e,_⟩:=wt_int ui9 q2;obtain rfl:=List.singleton_inj.1 e
 obtain ⟨z3,e,_⟩:=wt_int ui9 q3;obtain rfl:=List.singleton_inj.1 e
 exact ⟨⟨z0,z1,z2,z3⟩,rfl⟩
theorem rectV9 {n:Nat} {c:List Value} (h:Wt E.P n tRc c):∃ r:Rect,elemV E.P tRc c=.agg ⟨rectR.enc r⟩:=by
 obtain ⟨r,rfl⟩:=rect_of h
 exact ⟨r,by unfold elemV;rw [if_pos gRc]⟩
theorem lotV9 {n:Nat} {c:List Value} (h:Wt E.P n tLo c):∃ (t:Int × Int × List Rect × List Value),elemV E.P tLo c=.agg ⟨lotL t.1 t.2.1 (some false) t.2.2.1 (some t.2.2.2)⟩:=by
 obtain ⟨hl,hf⟩:=wt_struct fsLo h
 rw [nLo] at hl
 obtain ⟨a0,c,rfl⟩:=List.exists_cons_of_length_eq_add_one hl;have hl:=Nat.succ.inj hl
 obtain ⟨a1,c,rfl⟩:=List.exists_cons_of_length_eq_add_one hl;have hl:=Nat.succ.inj hl
 obtain ⟨a2,c,rfl⟩:=List.exists_cons_of_length_eq_add_one hl;have hl:=Nat.succ.inj hl
 obtain ⟨a3,c,rfl⟩:=List.exists_cons_of_length_eq_add_one hl;have hl:=Nat.succ.inj hl
 obtain rfl:=List.eq_nil_of_length_eq_zero hl
 obtain ⟨m0,q0⟩:=hf (0,3) (by simp)
 replace q0:Wt E.P m0 3 [a0]:=by simpa [ni9] using q0
 obtain ⟨m1,q1⟩:=hf (1,3) (by simp)
 replace q1:Wt E.P m1 3 [a1]:=by simpa [ni9] using q1
 obtain ⟨m2,q2⟩:=hf (2,31) (by simp)
 replace q2:Wt E.P m2 31 [a2]:=by simpa [nS2.1] using q2
 obtain ⟨m3,q3⟩:=hf (3,32) (by simp)
 replace q3:Wt E.P m3 32 [a3]:=by simpa [nS2.2] using q3
 obtain ⟨z0,e,_⟩:=wt_int ui9 q0;obtain rfl:=List.singleton_inj.1 e
 obtain ⟨z1,e,_⟩:=wt_int ui9 q1;obtain rfl:=List.singleton_inj.1 e
 obtain ⟨rs,e,_⟩:=recs_of rectR uS8 gRc byRc (Q:=fun _=>True) (fun h=>(rect_of h).imp fun _ h=>⟨h,trivial⟩) q2
 obtain rfl:=List.singleton_inj.1 e
 obtain ⟨x3,rfl⟩:=sl_of uS9 q3
 refine ⟨(z0,z1,rs,x3),?_⟩
 unfold elemV
 rw [if_pos gLo]
 rfl
end Go.Proofs.YtplebjehcgcdeaaGreatDoor.Bm
