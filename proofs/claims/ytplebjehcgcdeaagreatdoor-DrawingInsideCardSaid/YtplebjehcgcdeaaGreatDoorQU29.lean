/-
 The bases of the lot of the documentation, reckoned by the kernel. Conditions: none.
-/
import Derived.Test.YtplebjehcgcdeaaGreatDoorQU21
import Derived.Test.YtplebjehcgcdeaaGreatDoorQU28
import Derived.Test.YtplebjehcgcdeaaGreatDoorQU15
import Derived.Test.YtplebjehcgcdeaaGreatDoorQU16
namespace Go.Proofs.YtplebjehcgcdeaaGreatDoor.Bm
open Go Go.RowKit
open Dw (Vol Ent Phs Drw)
structure CapD where
 name:List UInt8
 load:Int
 limit:Int
 corners:List Value
abbrev tCap:TypeId:=81
def capsR:Rec CapD where
 enc a:=[.string ⟨⟨a.name⟩⟩,.int .i64 a.load,.int .i64 a.limit,lst false a.corners]
 m:=3
 len _:=rfl
 set _:=rfl
 bel _ _:=rfl
def clE (e:Ent):Value:=.func (.func 74) ⟨[]⟩ ⟨[cptr (.agg ⟨entR.enc e⟩)]⟩
theorem right1_pure (e:Ent) (c:CapD):pureCall E.P (L E) 74 [.agg ⟨capsR.enc c⟩,cptr (.agg ⟨entR.enc e⟩)]=some (.bool (decide (c.name=e.1))):=by
 rw [pureCall_fn F74 rfl]
 have e1:fieldAddrT ⟨some true,some 2⟩ (some (0,⟨some false,some 1⟩)) (cptr (.agg ⟨entR.enc e⟩))=some (cptr (.string ⟨⟨e.1⟩⟩)):=rfl
 have e3:aBox [] tCap (.agg ⟨capsR.enc c⟩)=some (.pointer (some ⟨0,0,none⟩),[.cells tCap (capsR.enc c) 0]):=rfl
 have e4:fieldAddrT ⟨some true,some 4⟩ (some (0,⟨some false,some 1⟩)) (.pointer (some ⟨0,0,none⟩))=some (.pointer (some ⟨0,0,none⟩)):=rfl
 have e5:loadT ⟨some false,some 1⟩ [.cells tCap (capsR.enc c) 0] (.pointer (some ⟨0,0,none⟩))=some (.string ⟨⟨c.name⟩⟩):=rfl
 generalize capsR.enc c=LC at *
 generalize entR.enc e=LE at *
 by_cases h:c.name=e.1
 ·rw [decide_eq_true h]
  simp -implicitDefEqProofs [r74,padS,e1,e4,e5,h]
 ·rw [decide_eq_false h]
  simp -implicitDefEqProofs [r74,padS,e1,e4,e5,h]
def hasC (caps:List CapD) (e:Ent):Bool:=caps.any fun c=>decide (c.name=e.1)
def cidx (e:Ent):Nat→List CapD→Int
 | _,[]=>-1
 | i,w :: r=>if decide (w.name=e.1) then i else cidx e (i+1) r
theorem cidx_any {e:Ent}:∀ {l:List CapD} {i:Nat},0≤cidx e i l↔hasC l e=true
 | [],i=>by simp [cidx,hasC]
 | w :: r,i=>by
  have ih:=cidx_any (e:=e) (l:=r) (i:=i+1)
  unfold hasC at ih ⊢
  unfold cidx
  rw [List.any_cons]
  cases h:decide (w.name=e.1) with
  | true=>simp
  | false=>simpa using ih
theorem cidx_none {e:Ent}:∀ {l:List CapD} {i:Nat},hasC l e=false→cidx e i l = -1
 | [],i,_=>rfl
 | w :: r,i,h=>by
  unfold hasC at h
  rw [List.any_cons,Bool.or_eq_false_iff] at h
  unfold cidx
  rw [h.1]
  exact cidx_none h.2
theorem cindex_pure (caps:List CapD) (x:Bool) (e:Ent) (hl:caps.length≤1000000) :
  pureCall E.P (L E) 137 [lst x (capsR.vals caps),clE e]=some (.int .i64 (cidx e 0 caps)):=by
 have ll:∀ h,lenT .sl h (lst x (capsR.vals caps))=some (.int .i64 caps.length):=fun h=>Rec.tree_len
 have ix:=fun (i:Nat) (hi:i<caps.length)=>Rec.index_tree (R:=capsR) (h0:=4) (x:=x) (t:=tCap) (k:=.i64) rfl hi
 have fm:=fun w=>right1_pure e w
 have fit:∀ w:CapD,fitsTT ⟨some true,some 4⟩ (.agg ⟨capsR.enc w⟩)=true:=fun w=>rfl
 have rf:∀ (w:CapD) h,reify E.P 8 h (.agg ⟨capsR.enc w⟩)=some (.agg ⟨capsR.enc w⟩):=fun w h=>rfl
 have rc:∀ h,reify E.P 8 h (cptr (.agg ⟨entR.enc e⟩))=some (cptr (.agg ⟨entR.enc e⟩)):=fun h=>rfl
 rw [pureCall_fn F137 rfl]
 generalize lst x (capsR.vals caps)=VP at *
 unfold clE
 simp -implicitDefEqProofs [r137,p137,ll]
 rw [LL_for (γ:=Unit) caps () (fun i _=>[(8,.int .i64 (i:Int))]) (fun _ _=>[]) (fun i rest _=>if hasC rest e then (.ret,[(4,.int .i64 (cidx e i rest)),(8,undef)],[]) else (.exit 0,[(8,undef)],[])) (fun _ _=>True) (by omega) trivial]
 ·cases ha:hasC caps e with
  | true=>simp -implicitDefEqProofs [k137_2]
  | false =>
   have e:=cidx_none (i:=0) ha
   simp -implicitDefEqProofs [k137_2,e]
 ·simp -implicitDefEqProofs [k137_2]
 ·rfl
 ·intro nx i c hi _
  simp -implicitDefEqProofs [r137_2,k137_2,hi,trim_le,hasC]
 ·intro nx i w rest u hi hv hd hw _ ih
  have ih:=ih () trivial
  have xi:=ix i hi
  rw [hv] at xi
  change _=some (cptr (.agg ⟨capsR.enc w⟩)) at xi
  have mw:=fm w
  have ftw:=fit w
  have rfw:=rf w
  have eh:hasC (w :: rest) e=(decide (w.name=e.1) || hasC rest e):=rfl
  have ec:cidx e i (w :: rest)=if decide (w.name=e.1) then (i:Int) else cidx e (i+1) rest:=rfl
  rw [eh,ec]
  generalize capsR.enc w=LW at *
  generalize entR.enc e=LV at *
  cases hmw:decide (w.name=e.1) with
  | true =>
   rw [hmw] at mw
   simp -implicitDefEqProofs [r137_2,k137_2,hi,xi,ftw,rfw,rc,ret0 m74,mw,trim_le]
  | false =>
   rw [hmw] at mw
   rw [Bool.false_or,show (if (false=true) then (i:Int) else cidx e (i+1) rest)=cidx e (i+1) rest from rfl]
   simp -implicitDefEqProofs [k137_2] at ih
   simp -implicitDefEqProofs [r137_2,k137_2,hi,xi,ftw,rfw,rc,ret0 m74,mw,hw,trim_le]
   exact ih
theorem cconts_pure (caps:List CapD) (x:Bool) (e:Ent) (hl:caps.length≤1000000) :
  pureCall E.P (L E) 73 [lst x (capsR.vals caps),clE e]=some (.bool (hasC caps e)):=by
 have ip:=cindex_pure caps x e hl
 have rc:∀ h,reify E.P 8 h (clE e)=some (clE e):=fun h=>rfl
 have rl:∀ h,reify E.P 8 h (lst x (capsR.vals caps))=some (lst x (capsR.vals caps)):=fun h=>rfl
 have hf:=cidx_any (e:=e) (l:=caps) (i:=0)
 rw [pureCall_fn F73 rfl]
 generalize lst x (capsR.vals caps)=VP at *
 generalize clE e=CL at *
 generalize cidx e 0 caps=z at *
 cases ha:hasC caps e with
 | true =>
  have hz:0≤z:=hf.2 ha
  simp -implicitDefEqProofs [r73,padS,rc,rl,ret0 m137,ip,hz]
 | false =>
  have hz:¬ 0≤z:=fun q=>by have:=hf.1 q;rw [ha] at this;cases this
  simp -implicitDefEqProofs [r73,padS,rc,rl,ret0 m137,ip,hz]
end Go.Proofs.YtplebjehcgcdeaaGreatDoor.Bm
namespace Go.Proofs.YtplebjehcgcdeaaGreatDoor.Bm
open Go Go.RowKit
open Dw (Vol Ent Phs Drw rightV formB)
open Rg (Rect)
abbrev tPl:TypeId:=30
abbrev tLo:TypeId:=34
structure PlD where
 x0:List Value
 x1:List Value
 x2:List Value
 x3:List Value
 caps:List CapD
 x5:List Value
 x6:List Value
 hours:Int
def planL (p:PlD):List Value:=[lst false p.x0,lst false p.x1,lst false p.x2,lst false p.x3,lst false (capsR.vals p.caps),lst false p.x5,lst false p.x6,.int .i64 p.hours]
def frV:Option (List Value)→Value
 | none=>.slice none 0 0
 | some x=>lst false x
def lotL (id ow:Int) (k:Option Bool) (A:List Rect) (f:Option (List Value)):List Value:=[.int .i64 id,.int .i64 ow,rectR.o k A,frV f]
theorem lot_set {id ow:Int} {k:Option Bool} {A:List Rect} {f:Option (List Value)}:(lotL id ow k A f).all (settled 8)=true:=by cases k <;> cases f <;> rfl
theorem lot_bel {id ow:Int} {k:Option Bool} {A:List Rect} {f:Option (List Value)} {d n:Nat}:(lotL id ow k A f).all (below (d+1) n)=true:=by cases k <;> cases f <;> rfl
def rcO (v:Vol):Rect:=⟨v.x0,v.y0,v.x1,v.y1⟩
theorem rcO_ok {v:Vol} (h:rightV v=true):okR (rcO v)=true:=by
 unfold rightV at h
 simp only [Bool.and_eq_true] at h
 exact h.1.1.1.1.1.1.1.1
theorem box_ent (X:Heap) (e:Ent) (hX:X.length=4):reify E.P 8 (X++[.cells tE (entR.enc e) 0]) (.func (.func 74) ⟨[]⟩ ⟨[.pointer (some ⟨4,0,none⟩)]⟩)=some (clE e):=by
 have ho:(X++[AObj.cells tE (entR.enc e) 0])[4]?=some (.cells tE (entR.enc e) 0):=by rw [← hX,List.getElem?_append_right (Nat.le_refl _),Nat.sub_self];rfl
 have h2:(entR.enc e).all (settled 8)=true:=rfl
 have h3:(entR.enc e).length=2:=rfl
 unfold clE
 generalize entR.enc e=LV at *
 simp -implicitDefEqProofs [sEnt,aEnt,h3,reifyC_set h2,ho]
def rightD (p:PlD) (id:Int) (A:List Rect) (d:Drw):Bool:=(formB d && (decide (id=d.lot) && regB A)) && (d.all.all (fun v=>insB A (rcO v)) && d.phs.all fun q=>q.gives.all (hasC p.caps))
abbrev elR1:El:=⟨56,4,32,.agg ⟨[.int .i64 0,.int .i64 0,.int .i64 0,.int .i64 0]⟩,⟨some true,some 4⟩⟩
theorem lit_rct (h:Heap) (r:Rect):buildSliceT (some elR1) false h 1 #[(0,.agg ⟨[.int .i64 r.x0,.int .i64 r.y0,.int .i64 r.x1,.int .i64 r.y1]⟩)]=some (lst true (rectR.vals [r]),h) :=
 (build_lit' (n:=1) (l:=[(0,.agg ⟨[.int .i64 r.x0,.int .i64 r.y0,.int .i64 r.x1,.int .i64 r.y1]⟩)]) rfl rfl (by decide) (by decide) (by decide)).trans rfl
set_option maxHeartbeats 1000000 in
theorem dright_pure (p:PlD) (id ow:Int) (k m:Option Bool) (A:List Rect) (f:Option (List Value)) (d:Drw) (hk:Rec.Ok k A) (hA:A.length≤1000000) (hc:p.caps.length≤1000000) (hm:Rec.Ok m d.phs) (hp:d.phs.length≤1000000) (hv:d.all.length≤1000000) (hg:∀ q∈d.phs,q.gives.length≤1000000∧∀ e∈q.gives,e.1.length≤1000000) :
  pureCall E.P (L E) 23 [.agg ⟨planL p⟩,.agg ⟨lotL id ow k A f⟩,drV m d]=some (.bool (rightD p id A d)):=by
 have fo:=form_pure m d hm hp hv hg
 have al:=all_spec m d hm hp hv
 have rr:=right2_spec k A hk hA
 have hrD:∀ h,reify E.P 8 h (drV m d)=some (drV m d):=fun h=>by
  have hs:([.int .i64 d.lot,phR.o m d.phs]:List Value).all (settled 8)=true:=by
   simp only [List.all_cons,List.all_nil,Bool.and_true,Bool.and_eq_true]
   exact ⟨rfl,Rec.o_set⟩
  unfold drV
  rw [reify_agg,reifyC_set hs];rfl
 have hsD:settled 8 (drV m d)=true:=by
  show ([_,_]:List Value).all (settled 7)=true
  simp only [List.all_cons,List.all_nil,Bool.and_true,Bool.and_eq_true]
  exact ⟨rfl,Rec.o_set⟩
 have hrA:∀ h,reify E.P 8 h (rectR.o k A)=some (rectR.o k A):=fun h=>Rec.o_reify
 have hsA:settled 8 (rectR.o k A)=true:=Rec.o_set
 have hright:formB d=true→∀ v∈d.all,rightV v=true:=fun q=>by
  unfold formB at q
  simp only [Bool.and_eq_true] at q
  exact Dw.volsB_right _ _ q.1.2
 have b1:aBox [] tPl (.agg ⟨planL p⟩)=some (.pointer (some ⟨0,0,none⟩),[.cells tPl (planL p) 0]):=rfl
 have b2:∀ X,aBox X tLo (.agg ⟨lotL id ow k A f⟩)=some (.pointer (some ⟨X.length,0,none⟩),X++[.cells tLo (lotL id ow k A f) 0]):=fun X=>by cases k <;> cases f <;> rfl
 have b3:∀ X,aBox X tD (drV m d)=some (.pointer (some ⟨X.length,0,none⟩),X++[.cells tD [.int .i64 d.lot,phR.o m d.phs] 0]):=fun X=>by cases m <;> rfl
 obtain ⟨P0,hP0⟩:∃ A,AObj.cells tPl (planL p) 0=A:=⟨_,rfl⟩
 obtain ⟨L0,hL0⟩:∃ B,AObj.cells tLo (lotL id ow k A f) 0=B:=⟨_,rfl⟩
 obtain ⟨D0,hD0⟩:∃ A,AObj.cells tD [.int .i64 d.lot,phR.o m d.phs] 0=A:=⟨_,rfl⟩
 rw [hP0] at b1
 rw [hL0] at b2
 rw [hD0] at b3
 have lC:∀ X,loadT ⟨some false,some 1⟩ (P0 :: X) (.pointer (some ⟨0,4,none⟩))=some (lst false (capsR.vals p.caps)):=fun X=>by rw [← hP0];exact obj_load (j:=4) (t:=tPl) (c:=planL p) rfl rfl
 have lI:∀ Y X,loadT ⟨some false,some 1⟩ (Y :: L0 :: X) (.pointer (some ⟨1,0,none⟩))=some (.int .i64 id):=fun Y X=>by rw [← hL0];exact obj_load (j:=0) (t:=tLo) (c:=lotL id ow k A f) rfl rfl
 have lA:∀ Y X,loadT ⟨some false,some 1⟩ (Y :: L0 :: X) (.pointer (some ⟨1,2,none⟩))=some (rectR.o k A):=fun Y X=>by rw [← hL0];exact obj_load (j:=2) (t:=tLo) (c:=lotL id ow k A f) rfl rfl
 have lL:∀ Y Z X,loadT ⟨some false,some 1⟩ (Y :: Z :: D0 :: X) (.pointer (some ⟨2,0,none⟩))=some (.int .i64 d.lot):=fun Y Z X=>by rw [← hD0];exact obj_load (j:=0) (t:=tD) (c:=[.int .i64 d.lot,phR.o m d.phs]) rfl rfl
 have lP:∀ Y Z X,loadT ⟨some false,some 1⟩ (Y :: Z :: D0 :: X) (.pointer (some ⟨2,1,none⟩))=some (phR.o m d.phs):=fun Y Z X=>by rw [← hD0];exact obj_load (j:=1) (t:=tD) (c:=[.int .i64 d.lot,phR.o m d.phs]) rfl rfl
 have lD:∀ Y Z X,loadT ⟨some true,some 2⟩ (Y :: Z :: D0 :: X) (.pointer (some ⟨2,0,none⟩))=some (drV m d):=fun Y Z X=>by rw [← hD0];exact obj_all (n:=2) (t:=tD) (c:=[.int .i64 d.lot,phR.o m d.phs]) rfl rfl
 have bP:∀ d' n,below (d'+1) n (phR.o m d.phs)=true:=fun d' n=>Rec.o_bel
 have blP:∀ n,belowO n P0=true:=fun n=>by rw [← hP0];rfl
 have blL:∀ n,belowO n L0=true:=fun n=>by rw [← hL0];exact lot_bel
 have blD:∀ n,belowO n D0=true:=fun n=>by rw [← hD0];show ([_,_]:List Value).all (below 8 n)=true;simp only [List.all_cons,List.all_nil,bP,bel_int,Bool.and_self]
 have bgP:∀ n,below 8 n (.agg ⟨planL p⟩)=true:=fun n=>rfl
 have bgL:∀ n,below 8 n (.agg ⟨lotL id ow k A f⟩)=true:=fun n=>lot_bel (d:=6)
 have bgD:∀ n,below 8 n (drV m d)=true:=fun n=>by show ([_,_]:List Value).all (below 7 n)=true;simp only [List.all_cons,List.all_nil,bP,bel_int,Bool.and_self]
 have bA:∀ d' n,below (d'+1) n (rectR.o k A)=true:=fun d' n=>Rec.o_bel
 have rC:∀ h,reify E.P 8 h (lst false (capsR.vals p.caps))=some (lst false (capsR.vals p.caps)):=fun h=>rfl
 unfold rightD
 rw [pureCall_fn F23 rfl]
 cases hF:formB d with
 | false =>
  rw [hF] at fo
  generalize planL p=PL at *
  generalize lotL id ow k A f=LL' at *
  generalize drV m d=DV at *
  simp -implicitDefEqProofs [r23,p23,b1,b2,b3,lD,hrD,ret0 m21,fo,-aBox_eq]
 | true =>
 rw [hF] at fo
 have hright:=hright hF
 by_cases hid:id=d.lot
 case neg =>
  rw [decide_eq_false hid]
  generalize planL p=PL at *
  generalize lotL id ow k A f=LL' at *
  generalize drV m d=DV at *
  simp -implicitDefEqProofs [r23,p23,b1,b2,b3,lI,lL,lD,hrD,ret0 m21,fo,hid,-aBox_eq]
 rw [decide_eq_true hid]
 cases hR:regB A with
 | false =>
  rw [hR] at rr
  generalize planL p=PL at *
  generalize lotL id ow k A f=LL' at *
  generalize drV m d=DV at *
  generalize rectR.o k A=AV at *
  simp -implicitDefEqProofs [r23,p23,b1,b2,b3,lI,lA,lL,lD,hrD,hrA,ret0 m21,fo,hid,ret0 m37,rr,-aBox_eq]
 | true =>
 rw [hR] at rr
 rw [Bool.true_and,Bool.true_and,Bool.true_and]
 have lv:∀ h,lenT .sl h (lst false (volR.vals d.all))=some (.int .i64 d.all.length):=fun h=>Rec.tree_len
 have iv:=fun (i:Nat) (hi:i<d.all.length)=>Rec.index_tree (R:=volR) (h0:=9) (x:=false) (t:=tV) (k:=.i64) rfl hi
 have bV:∀ d' n,below (d'+1) n (lst false (volR.vals d.all))=true:=fun d' n=>rfl
 have ll:∀ h,lenT .sl h (phR.o m d.phs)=some (.int .i64 d.phs.length):=fun h=>Rec.o_len hm
 have ix:=fun (i:Nat) (hi:i<d.phs.length)=>Rec.o_index (R:=phR) (s:=2) (t:=tP) (kk:=.i64) rfl hm hi
 have cm:=fun v (hv:v∈d.all)=>common_ins (A:=A) (r:=rcO v) hR (rcO_ok (hright v hv))
 have c2:=fun v=>common2_spec k (some true) A [rcO v] hk (fun h=>by cases h) hA (by show 1≤1000000;omega)
 generalize hl:d.all=l at *
 generalize planL p=PL at *
 generalize lotL id ow k A f=LL' at *
 generalize drV m d=DV at *
 generalize rectR.o k A=AV at *
 generalize hVL:lst false (volR.vals l)=VL at *
 generalize hVP:phR.o m d.phs=VP at *
 generalize hCV:lst false (capsR.vals p.caps)=CV at *
 simp -implicitDefEqProofs [r23,p23,b1,b2,b3,lI,lA,lL,lD,hrD,hsD,hrA,ret0 m21,fo,hid,ret0 m37,rr,ret1s m59,al,lv,-aBox_eq]
 rw [LL_for (γ:=Unit) l () (fun i _=>[(34,.int .i64 (i:Int))]) (fun _ _=>[P0,L0,D0]) (fun i rest _=>if rest.all (fun v=>insB A (rcO v)) then (.exit 0,[(34,undef)],[P0,L0,D0]) else (.ret,[(6,.bool false),(34,undef)],[P0,L0,D0])) (fun _ _=>True) (by omega) trivial]
 ·cases hvb:l.all (fun v=>insB A (rcO v)) with
  | false=>simp -implicitDefEqProofs [k23_4]
  | true =>
   simp -implicitDefEqProofs [k23_4,lP,ll]
   rw [LL_for (γ:=Unit) d.phs () (fun i _=>[(63,.int .i64 (i:Int))]) (fun _ _=>[P0,L0,D0]) (fun i rest _=>if rest.all (fun q=>q.gives.all (hasC p.caps)) then (.exit 2,[(63,undef)],[P0,L0,D0]) else (.ret,[(6,.bool false),(63,undef)],[P0,L0,D0])) (fun i _=>True) (by omega) trivial]
   ·cases hpb:d.phs.all (fun q=>q.gives.all (hasC p.caps)) with
    | false=>simp -implicitDefEqProofs [k23_11]
    | true=>simp -implicitDefEqProofs [k23_11]
   ·simp -implicitDefEqProofs [k23_11]
   ·rfl
   ·intro nx i c hi _
    simp -implicitDefEqProofs [r23_11,k23_11,hi,trim_le]
   ·intro nx i q rest u hi hv2 hd hw _ ih
    have ih:=ih () trivial
    have xi:=ix i hi
    rw [hv2,ph_val] at xi
    have hii:((i:Nat):Int)<(d.phs.length:Int):=by omega
    obtain ⟨hg1,hg2⟩:=hg q (by rw [← hv2];exact List.getElem_mem hi)
    obtain ⟨qv,qg⟩:=q
    simp only at xi hg1 hg2
    have lg:∀ h,lenT .sl h (lst false (entR.vals qg))=some (.int .i64 qg.length):=fun h=>Rec.tree_len
    have ig:=fun (j:Nat) (hj:j<qg.length)=>Rec.index_tree (R:=entR) (h0:=2) (x:=false) (t:=tE) (k:=.i64) rfl hj
    have ftp:fitsTT ⟨some true,some 2⟩ (.agg ⟨[lst false (volR.vals qv),lst false (entR.vals qg)]⟩)=true:=rfl
    have bQ:∀ d n,below (d+1) n (lst false (entR.vals qg))=true:=fun d n=>rfl
    have bW:∀ d n,below (d+1) n (lst false (volR.vals qv))=true:=fun d n=>rfl
    have eA:((⟨qv,qg⟩:Phs) :: rest).all (fun q=>q.gives.all (hasC p.caps))=(qg.all (hasC p.caps) && rest.all (fun q=>q.gives.all (hasC p.caps))):=rfl
    rw [eA]
    generalize rest.all (fun q=>q.gives.all (hasC p.caps))=RA at *
    generalize lst false (volR.vals qv)=VW at *
    generalize lst false (entR.vals qg)=VG at *
    have stp:storeT (some 2) [P0,L0,D0,.cells tP [.slice none 0 0,.slice none 0 0] 0] 0 (.agg ⟨[VW,VG]⟩) (.pointer (some ⟨3,0,none⟩))=some [P0,L0,D0,.cells tP [VW,VG] 0]:=snoc_put (g:=[P0,L0,D0]) rfl rfl (by decide) (Nat.zero_le _)
    have lp:∀ X,loadT ⟨some false,some 1⟩ (P0 :: L0 :: D0 :: .cells tP [VW,VG] 0 :: X) (.pointer (some ⟨3,1,none⟩))=some VG:=fun X=>obj_load (j:=1) (t:=tP) (c:=[VW,VG]) rfl rfl
    simp -implicitDefEqProofs [r23_11,k23_11,hii,xi,ftp,stp,lp,lg]
    rw [LL_for (γ:=Unit) qg () (fun j _=>[(70,.int .i64 (j:Int))]) (fun _ _=>[P0,L0,D0,.cells tP [VW,VG] 0]) (fun j rest _=>if rest.all (hasC p.caps) then (.exit 4,[(70,undef)],[P0,L0,D0,.cells tP [VW,VG] 0]) else (.ret,[(6,.bool false),(70,undef)],[P0,L0,D0,.cells tP [VW,VG] 0])) (fun _ _=>True) (by omega) trivial]
    ·cases hgb:qg.all (hasC p.caps) with
     | false=>simp -implicitDefEqProofs [k23_14,trim_cut,blP,blL,blD,bgP,bgL,bgD,bA,bV,bP,-List.all_eq_true]
     | true =>
      rw [Bool.true_and]
      simp -implicitDefEqProofs [k23_11,-List.all_eq_true] at ih
      simp -implicitDefEqProofs [k23_14,hw,trim_cut,blP,blL,blD,bgP,bgL,bgD,bA,bV,bP,-List.all_eq_true]
      exact ih
    ·simp -implicitDefEqProofs [k23_14]
    ·rfl
    ·intro nx j c hj _
     simp -implicitDefEqProofs [r23_14,k23_14,hj,trim_le]
    ·intro nx j e rst u hj hvv hdd hww _ ihe
     have ihe:=ihe () trivial
     have xg:=ig j hj
     rw [hvv] at xg
     change _=some (cptr (.agg ⟨entR.enc e⟩)) at xg
     have hjj:((j:Nat):Int)<(qg.length:Int):=by omega
     have cc:=cconts_pure p.caps false e hc
     rw [hCV] at cc
     have fte:fitsTT ⟨some true,some 2⟩ (.agg ⟨entR.enc e⟩)=true:=rfl
     have ste:storeT (some 2) [P0,L0,D0,.cells tP [VW,VG] 0,.cells tE [.string ⟨⟨[]⟩⟩,.int .i64 0] 0] 0 (.agg ⟨entR.enc e⟩) (.pointer (some ⟨4,0,none⟩))=some [P0,L0,D0,.cells tP [VW,VG] 0,.cells tE (entR.enc e) 0]:=snoc_put (g:=[P0,L0,D0,.cells tP [VW,VG] 0]) rfl rfl (by decide) (Nat.zero_le _)
     have bx:=box_ent [P0,L0,D0,.cells tP [VW,VG] 0] e rfl
     have eA:(e :: rst).all (hasC p.caps)=(hasC p.caps e && rst.all (hasC p.caps)):=rfl
     rw [eA]
     change reify E.P 8 [P0,L0,D0,.cells tP [VW,VG] 0,.cells tE (entR.enc e) 0] _=_ at bx
     generalize rst.all (hasC p.caps)=RB at *
     generalize clE e=CL at *
     generalize entR.enc e=LE at *
     simp -implicitDefEqProofs [k23_14] at ihe
     cases hh:hasC p.caps e with
     | false =>
      rw [hh] at cc
      simp -implicitDefEqProofs [r23_14,k23_14,hjj,xg,fte,ste,lC,rC,bx,ret0 m73,cc,trim_cut,blP,blL,blD,bgP,bgL,bgD,bA,bV,bP,bQ,bW,-List.all_eq_true]
     | true =>
      rw [hh] at cc
      rw [Bool.true_and]
      simp -implicitDefEqProofs [r23_14,k23_14,hjj,xg,fte,ste,lC,rC,bx,ret0 m73,cc,hww,trim_cut,blP,blL,blD,bgP,bgL,bgD,bA,bV,bP,bQ,bW,-List.all_eq_true]
      exact ihe
 ·simp -implicitDefEqProofs [k23_4]
 ·rfl
 ·intro nx i c hi _
  simp -implicitDefEqProofs [r23_4,k23_4,hi,trim_le]
 ·intro nx i v rest u hi hv2 hd hw _ ih
  have ih:=ih () trivial
  have xi:=iv i hi
  rw [hv2] at xi
  have hmem:v∈l:=by rw [← hv2];exact List.getElem_mem hi
  have hok:=rcO_ok (hright v hmem)
  have cv:=cm v hmem
  have c2v:=c2 v
  have ar:=area_s (rcO v) hok
  have hii:((i:Nat):Int)<(l.length:Int):=by omega
  have eA:(v :: rest).all (fun v=>insB A (rcO v))=(insB A (rcO v) && rest.all (fun v=>insB A (rcO v))):=rfl
  rw [eA]
  generalize rest.all (fun v=>insB A (rcO v))=RA at *
  obtain ⟨a0,a1',a2,a3,a4,a5,a6,a7,xt⟩:=v
  obtain ⟨r,hr⟩:∃ r:Rect,r=⟨a0,a1',a2,a3⟩:=⟨_,rfl⟩
  have er:rcO ⟨a0,a1',a2,a3,a4,a5,a6,a7,xt⟩=r:=by rw [hr];rfl
  rw [er] at hok cv c2v ar ⊢
  have li:∀ h,buildSliceT (some elR1) false h 1 #[(0,.agg ⟨[.int .i64 a0,.int .i64 a1',.int .i64 a2,.int .i64 a3]⟩)]=some (lst true (rectR.vals [r]),h):=fun h=>by
   have:=lit_rct h r
   rw [hr] at this ⊢
   exact this
  have ar:pureCall E.P (L E) 72 [.agg ⟨[.int .i64 a0,.int .i64 a1',.int .i64 a2,.int .i64 a3]⟩]=some (.int .i64 r.area):=by
   rw [hr] at ar ⊢
   exact ar
  have r2:=area2_spec (some false) [r] (fun h=>by cases h) (by show 1≤1000000;omega)
  rw [reg1 hok,if_pos rfl] at r2
  clear hr er
  change pureCall _ _ _ [AV,lst true (rectR.vals [r])]=_ at c2v
  change pureCall _ _ _ [lst false (rectR.vals [r])]=_ at r2
  have sV1:settled 8 (lst true (rectR.vals [r]))=true:=rfl
  have bV1:∀ d' n,below (d'+1) n (lst true (rectR.vals [r]))=true:=fun d' n=>rfl
  change _=some (cptr (.agg ⟨[.int .i64 a0,.int .i64 a1',.int .i64 a2,.int .i64 a3,.int .i64 a4,.int .i64 a5,.int .i64 a6,.int .i64 a7,.bool xt]⟩)) at xi
  generalize lst true (rectR.vals [r])=V1 at *
  simp -implicitDefEqProofs [k23_4] at ih
  rcases cv with ⟨hi1,ho,har⟩ | ⟨hi1,⟨lr,ho,hrb,hlt⟩ | ho⟩
  ·rw [ho] at c2v
   rw [har] at r2
   rw [hi1,Bool.true_and]
   change _=some (Value.tuple ⟨[lst false (rectR.vals [r]),.int .i64 0]⟩) at c2v
   have r9:∀ h,reify E.P 8 h (lst false (rectR.vals [r]))=some (lst false (rectR.vals [r])):=fun h=>rfl
   have b9:∀ d' n,below (d'+1) n (lst false (rectR.vals [r]))=true:=fun d' n=>rfl
   generalize lst false (rectR.vals [r])=V9 at *
   simp -implicitDefEqProofs [r23_4,k23_4,hii,xi,li,lA,hsA,sV1,ret1s m70,c2v,r9,ret0 m71,r2,ret0 m72,ar,hw,trim_cut,blP,blL,blD,bgP,bgL,bgD,bA,bV,-List.all_eq_true]
   exact ih
  ·have r3:=area2_spec (some false) lr (fun h=>by cases h) (by have:=(regB_iff.1 hrb).2.1;omega)
   rw [hrb,if_pos rfl] at r3
   change pureCall _ _ _ [lst false (rectR.vals lr)]=_ at r3
   rw [ho] at c2v
   rw [hi1,Bool.false_and]
   change _=some (Value.tuple ⟨[lst false (rectR.vals lr),.int .i64 0]⟩) at c2v
   have r9:∀ h,reify E.P 8 h (lst false (rectR.vals lr))=some (lst false (rectR.vals lr)):=fun h=>rfl
   have b9:∀ d' n,below (d'+1) n (lst false (rectR.vals lr))=true:=fun d' n=>rfl
   generalize lst false (rectR.vals lr)=V9 at *
   simp -implicitDefEqProofs [r23_4,k23_4,hii,xi,li,lA,hsA,sV1,ret1s m70,c2v,r9,ret0 m71,r3,ret0 m72,ar,hlt,trim_cut,blP,blL,blD,bgP,bgL,bgD,bA,bV,-List.all_eq_true]
  ·rw [ho] at c2v
   rw [hi1,Bool.false_and]
   change _=some (Value.tuple ⟨[.slice none 0 0,.int .i64 6]⟩) at c2v
   simp -implicitDefEqProofs [r23_4,k23_4,hii,xi,li,lA,hsA,sV1,ret1s m70,c2v,trim_cut,blP,blL,blD,bgP,bgL,bgD,bA,bV,-List.all_eq_true]
end Go.Proofs.YtplebjehcgcdeaaGreatDoor.Bm
namespace Go.Proofs.YtplebjehcgcdeaaGreatDoor.Bm
open Go Go.RowKit
open Dw (Vol Ent Phs Drw)
end Go.Proofs.YtplebjehcgcdeaaGreatDoor.Bm
namespace Go.Proofs.YtplebjehcgcdeaaGreatDoor.Bm
open Go Go.RowKit
section
variable {E:Env}
theorem ropR_le {C C':Callee} (hC:LeC C C') {lo:Nat} {strict:Bool} {op:ROp} {ρ:Operand→Value} {h:Heap} {r:Value × Heap} (hr:ropR E C lo strict op ρ h=some r):ropR E C' lo strict op ρ h=some r:=by
 cases op with
 | call f args =>
  simp only [ropR] at hr ⊢
  unfold aCall at *
  split at hr
  ·exact retCall_le hC hr
  ·cases hr
 | _=>exact hr
theorem runR_le {C C':Callee} (hC:LeC C C') {lo:Nat}:∀ (l:List RI) (σ:Slots) (h:Heap) (r:Slots × Heap),runR E C lo l σ h=some r→runR E C' lo l σ h=some r
 | [],σ,h,r,hr=>hr
 | o :: l,σ,h,r,hr=>by
  simp only [runR] at hr ⊢
  unfold grdK bndK at *
  split at hr
  ·exact bind_le (fun a ha=>ropR_le hC ha) (fun a b hb=>runR_le hC l _ _ _ hb) hr
  ·exact runR_le hC l _ _ _ hr
  ·cases hr
theorem runRQ_le {C C':Callee} (hC:LeC C C') {lo:Nat} {cm:Nat × Nat}:∀ (l:List (RI × Bool)) (σ:Slots) (h:Heap) (r:Slots × Heap),runRQ E C lo cm l σ h=some r→runRQ E C' lo cm l σ h=some r
 | [],σ,h,r,hr=>hr
 | (o,race) :: l,σ,h,r,hr=>by
  simp only [runRQ] at hr ⊢
  unfold grdK bndK at *
  split at hr
  ·refine bind_le (fun a ha=>ropR_le hC ha) (fun a b hb=>?_) hr
   simp only at hb ⊢
   split at hb
   ·cases hb
   ·rename_i hq
    rw [if_neg hq]
    exact runRQ_le hC l _ _ _ hb
  ·exact runRQ_le hC l _ _ _ hr
  ·cases hr
theorem evR_le {C C':Callee} (hC:LeC C C') {Lp Lp':List Nat × List Nat→Body→Body} (hL:∀ k b b',LeB b b'→LeB (Lp k b) (Lp' k b')) {lo:Nat}:∀ c:RCode,LeB (evR E C Lp lo c) (evR E C' Lp' lo c):=by
 intro c
 induction c with
 | region dirs l =>
  intro σ h r hr
  simp only [evR,regK,preK,Option.map_eq_some_iff] at hr ⊢
  obtain ⟨x,h1,h2⟩:=hr
  exact ⟨x,bind_le (fun a ha=>ha) (fun a b hb=>runR_le hC _ _ _ _ hb) h1,h2⟩
 | regionQ dirs s l =>
  intro σ h r hr
  simp only [evR,regK,preK,Option.map_eq_some_iff] at hr ⊢
  obtain ⟨x,h1,h2⟩:=hr
  exact ⟨x,bind_le (fun a ha=>ha) (fun a b hb=>bind_le (fun x hx=>hx) (fun x y hy=>runRQ_le hC _ _ _ _ hy) hb) h1,h2⟩
 | seq a b iha ihb =>
  intro σ h r hr
  simp only [evR,seqK] at hr ⊢
  refine bind_le (fun x hx=>iha _ _ _ hx) (fun x y hy=>?_) hr
  obtain ⟨e1,σ1,h1⟩:=x
  cases e1 <;> simp only at hy ⊢
  case normal=>exact ihb _ _ _ hy
  all_goals exact hy
 | cond c a b iha ihb =>
  intro σ h r hr
  simp only [evR] at hr ⊢
  unfold cndK at *
  split at hr
  ·exact iha _ _ _ hr
  ·exact ihb _ _ _ hr
  ·cases hr
 | block id a iha =>
  intro σ h r hr
  simp only [evR,blkK,Option.map_eq_some_iff] at hr ⊢
  obtain ⟨x,h1,h2⟩:=hr
  exact ⟨x,iha _ _ _ h1,h2⟩
 | loop k a iha=>intro σ h r hr;exact hL _ _ _ iha _ _ _ hr
 | scope a iha =>
  intro σ h r hr
  simp only [evR,scpK] at hr ⊢
  exact bind_le (fun x hx=>iha _ _ _ hx) (fun x y hy=>hy) hr
 | _=>intro σ h r hr;exact hr
end
end Go.Proofs.YtplebjehcgcdeaaGreatDoor.Bm
namespace Go.Proofs.YtplebjehcgcdeaaGreatDoor.Bm
open Go Go.RowKit
def fgt:Nat→List Nat→Slots→Slots
 | _,[],σ=>σ
 | _,_ :: _,[]=>[]
 | i,d :: k,v :: σ=>if i=d then undef :: fgt (i+1) k σ else v :: fgt (i+1) (d :: k) σ
def ascB:Nat→List Nat→Bool
 | _,[]=>true
 | i,d :: k=>decide (i≤d) && ascB (d+1) k
theorem forget_none:∀ k:List Nat,forget k []=[]
 | []=>rfl
 | d :: k=>by rw [forget_cons];exact forget_none k
theorem forget_succ:∀ (k:List Nat) (a:Value) (σ:Slots),forget (k.map (· + 1)) (a :: σ)=a :: forget k σ
 | [],_,_=>rfl
 | d :: k,a,σ=>by
  rw [List.map_cons,forget_cons,forget_cons]
  exact forget_succ k a (setS σ d undef)
theorem ascB_le:∀ {k:List Nat} {i:Nat},ascB i k=true→∀ d∈k,i≤d
 | [],_,_,_,hd=>absurd hd List.not_mem_nil
 | e :: k,i,h,d,hd=>by
  unfold ascB at h
  rw [Bool.and_eq_true,decide_eq_true_eq] at h
  rcases List.mem_cons.1 hd with rfl | hd
  ·exact h.1
  ·have:=ascB_le h.2 d hd;omega
theorem ascB_mono {k:List Nat} {i j:Nat} (h:ascB i k=true) (hj:∀ d∈k,j≤d):ascB j k=true:=by
 cases k with
 | nil=>rfl
 | cons d k =>
  unfold ascB at h ⊢
  rw [Bool.and_eq_true] at h ⊢
  exact ⟨decide_eq_true (hj d (List.mem_cons_self ..)),h.2⟩
theorem sub_map {k:List Nat} {i:Nat} (h:∀ d∈k,i+1≤d):k.map (· - i)=(k.map (· - (i+1))).map (· + 1):=by
 rw [List.map_map]
 apply List.map_congr_left
 intro d hd
 have:=h d hd
 show d-i=d-(i+1)+1
 omega
theorem fgt_eq:∀ (σ:Slots) (k:List Nat) (i:Nat),ascB i k=true→fgt i k σ=forget (k.map (· - i)) σ
 | σ,[],_,_=>by unfold fgt;rfl
 | [],d :: k,i,_=>by rw [forget_none];rfl
 | v :: σ,d :: k,i,h=>by
  have h':=h
  unfold ascB at h'
  rw [Bool.and_eq_true,decide_eq_true_eq] at h'
  unfold fgt
  by_cases e:i=d
  ·subst e
   rw [if_pos rfl,List.map_cons,forget_cons,Nat.sub_self,fgt_eq σ k (i+1) h'.2,sub_map (ascB_le h'.2)]
   exact (forget_succ _ _ _).symm
  ·have hk:∀ x∈d :: k,i+1≤x:=fun x hx=>by
    rcases List.mem_cons.1 hx with rfl | hx
    ·omega
    ·have:=ascB_le h'.2 x hx;omega
   rw [if_neg e,fgt_eq σ (d :: k) (i+1) (ascB_mono h hk),sub_map hk]
   exact (forget_succ _ _ _).symm
def forgetF (k:List Nat) (σ:Slots):Slots:=if ascB 0 k then fgt 0 k σ else forget k σ
theorem forgetF_eq (k:List Nat) (σ:Slots):forgetF k σ=forget k σ:=by
 unfold forgetF
 split
 ·rw [fgt_eq σ k 0 ‹_›]
  congr 1
  exact List.map_id' k
 ·rfl
def evLoopF:Nat→List Nat × List Nat→Body→Body
 | 0,_,_,_,_=>none
 | m+1,k,body,σ,h=>(body (forgetF k.1 σ) h).bind fun r=>match r.1 with
  | .normal=>evLoopF m k body (forgetF k.1 r.2.1) (trim h.length (forgetF k.1 r.2.1) r.2.2)
  | _=>some (r.1,(forgetF k.2 r.2.1),trim h.length (forgetF k.2 r.2.1) r.2.2)
theorem evLoopF_eq (k:List Nat × List Nat) (body:Body):∀ n,evLoopF n k body=evLoop n k body
 | 0=>rfl
 | m+1=>by
  funext σ h
  unfold evLoopF evLoop
  simp only [forgetF_eq,evLoopF_eq k body m]
  refine congrArg _ (funext fun r=>?_)
  obtain ⟨e,σ',h'⟩:=r
  cases e <;> rfl
def cR (E:Env) (T:List (FuncId × RFn)):Nat→Callee
 | 0=>fun _ _ _ _=>none
 | n+1=>fun f args h lo=>match T.lookup f with
  | some R=>retK R.res (evR E (cR E T n) (evLoopF n) lo R.body (padS args R.n) h)
  | none=>evF E n f args h lo
theorem cR_le {E:Env} {T:List (FuncId × RFn)} (hT:∀ p∈T,rfnOf E p.1=some p.2∧E.orc p.1=none):∀ n,LeC (cR E T n) (L E)
 | 0=>fun _ _ _ _ _ hr=>by cases hr
 | n+1=>fun f args h lo r hr=>by
  unfold cR at hr
  split at hr
  ·rename_i R hl
   have hm:(f,R)∈T:=by
    clear hr hT
    induction T with
    | nil=>cases hl
    | cons p T ih =>
     obtain ⟨a,b⟩:=p
     rw [List.lookup_cons] at hl
     split at hl
     ·rename_i he
      have:=eq_of_beq he
      subst this
      cases hl
      exact List.mem_cons_self ..
     ·exact List.mem_cons_of_mem _ (ih hl)
   obtain ⟨h1,h2⟩:=hT _ hm
   rw [L_fn h1 h2]
   rw [show evLoopF n=evLoop n from funext fun k=>funext fun b=>evLoopF_eq k b n] at hr
   unfold retK at *
   exact bind_le (fun a ha=>evR_le (cR_le hT n) (fun k b b' hb=>evLoop_LL n k hb) _ _ _ _ ha) (fun a b hb=>hb) hr
  ·exact evF_L n _ _ _ _ _ hr
theorem pure_byT {E:Env} {T:List (FuncId × RFn)} (hT:∀ p∈T,rfnOf E p.1=some p.2∧E.orc p.1=none) (n:Nat) {f:FuncId} {args:List Value} {v:Value} (hr:pureCall E.P (cR E T n) f args=some v):pureCall E.P (L E) f args=some v :=
 pureCall_le (cR_le hT n) hr
open Dw (Vol Ent Phs Drw readF formB)
def exD (z:Int):Drw:=⟨7,[⟨[⟨2,2,4,5,0,6,0,3,false⟩],[]⟩,⟨[⟨2,2,4,5,z,9,1,0,false⟩],[([114,111,97,100,115],50)]⟩]⟩
def exP (z:Int):Value:=lst true [.agg ⟨[lst true (volR.vals [⟨2,2,4,5,0,6,0,3,false⟩]),.slice none 0 0]⟩,.agg ⟨[lst true (volR.vals [⟨2,2,4,5,z,9,1,0,false⟩]),lst true (entR.vals [([114,111,97,100,115],50)])]⟩]
def exV (z:Int):Value:=.agg ⟨[.int .i64 7,exP z]⟩
def exS:List UInt8:=[55,59,50,59,49,59,57,91,50,59,50,59,52,59,53,59,48,59,54,59,48,59,51,59,48,59,93,48,59,49,59,57,91,50,59,50,59,52,59,53,59,54,59,57,59,49,59,48,59,48,59,93,49,59,53,58,114,111,97,100,115,44,53,48,59]
def rV (a b c d:Int):Value:=.agg ⟨[.int .i64 a,.int .i64 b,.int .i64 c,.int .i64 d]⟩
def loV (i:Int) (r:Value):Value:=.agg ⟨[.int .i64 i,.int .i64 0,lst true [r],.slice none 0 0]⟩
def plV (c:Value):Value:=.agg ⟨[.slice none 0 0,.slice none 0 0,.slice none 0 0,.slice none 0 0,c,.slice none 0 0,.slice none 0 0,.int .i64 0]⟩
def capV:Value:=lst true [.agg ⟨[.string ⟨⟨[114,111,97,100,115]⟩⟩,.int .i64 0,.int .i64 0,.slice none 0 0]⟩]
def prbP:Value:=lst true [.agg ⟨[lst true (volR.vals [⟨1,1,4,3,0,6,1,0,false⟩]),.slice none 0 0]⟩]
def prbX:Value:=.agg ⟨[.int .i64 3,prbP]⟩
def rT:List (FuncId × RFn):=[(47,r47),(21,r21),(13,r13),(15,r15),(17,r17),(20,r20),(30,r30),(28,r28),(35,r35),(23,r23),(59,r59),(64,r64),(65,r65),(67,r67),(48,r48),(49,r49),(50,r50),(51,r51),(26,r26),(56,r56),(58,r58),(25,r25),(63,r63),(80,r80),(78,r78),(93,r93),(37,r37),(70,r70),(71,r71),(72,r72),(73,r73),(74,r74),(130,r130),(66,r66),(132,r132),(117,r117),(118,r118),(103,r103),(122,r122),(123,r123),(124,r124),(151,r151),(152,r152),(104,r104),(105,r105),(136,r136),(137,r137),(131,r131),(174,r174),(175,r175),(160,r160),(161,r161),(162,r162),(111,r111),(191,r191),(163,r163),(164,r164),(204,r204),(205,r205),(206,r206),(207,r207),(208,r208),(209,r209),(228,r228),(231,r231),(232,r232)]
theorem rT_ok:∀ p∈rT,rfnOf E p.1=some p.2∧E.orc p.1=none:=by
 unfold rT
 simp only [List.forall_mem_cons]
 exact ⟨⟨F47,rfl⟩,⟨F21,rfl⟩,⟨F13,rfl⟩,⟨F15,rfl⟩,⟨F17,rfl⟩,⟨F20,rfl⟩,⟨F30,rfl⟩,⟨F28,rfl⟩,⟨F35,rfl⟩,⟨F23,rfl⟩,⟨F59,rfl⟩,⟨F64,rfl⟩,⟨F65,rfl⟩,⟨F67,rfl⟩,⟨F48,rfl⟩,⟨F49,rfl⟩,⟨F50,rfl⟩,⟨F51,rfl⟩,⟨F26,rfl⟩,⟨F56,rfl⟩,⟨F58,rfl⟩,⟨F25,rfl⟩,⟨F63,rfl⟩,⟨F80,rfl⟩,⟨F78,rfl⟩,⟨F93,rfl⟩,⟨F37,rfl⟩,⟨F70,rfl⟩,⟨F71,rfl⟩,⟨F72,rfl⟩,⟨F73,rfl⟩,⟨F74,rfl⟩,⟨F130,rfl⟩,⟨F66,rfl⟩,⟨F132,rfl⟩,⟨F117,rfl⟩,⟨F118,rfl⟩,⟨F103,rfl⟩,⟨F122,rfl⟩,⟨F123,rfl⟩,⟨F124,rfl⟩,⟨F151,rfl⟩,⟨F152,rfl⟩,⟨F104,rfl⟩,⟨F105,rfl⟩,⟨F136,rfl⟩,⟨F137,rfl⟩,⟨F131,rfl⟩,⟨F174,rfl⟩,⟨F175,rfl⟩,⟨F160,rfl⟩,⟨F161,rfl⟩,⟨F162,rfl⟩,⟨F111,rfl⟩,⟨F191,rfl⟩,⟨F163,rfl⟩,⟨F164,rfl⟩,⟨F204,rfl⟩,⟨F205,rfl⟩,⟨F206,rfl⟩,⟨F207,rfl⟩,⟨F208,rfl⟩,⟨F209,rfl⟩,⟨F228,rfl⟩,⟨F231,rfl⟩,⟨F232,rfl⟩,fun p hp=>by cases hp⟩
set_option maxRecDepth 100000 in
theorem ex_6:pureCall E.P (L E) 47 [.int .i64 6]=some (exV 6):=pure_byT rT_ok 60 (by kernel_rfl)
set_option maxRecDepth 100000 in
theorem ex_5:pureCall E.P (L E) 47 [.int .i64 5]=some (exV 5):=pure_byT rT_ok 60 (by kernel_rfl)
set_option maxRecDepth 100000 in
theorem ex_form6:pureCall E.P (L E) 21 [exV 6]=some (.bool true):=pure_byT rT_ok 60 (by kernel_rfl)
set_option maxRecDepth 100000 in
theorem ex_form5:pureCall E.P (L E) 21 [exV 5]=some (.bool false):=pure_byT rT_ok 60 (by kernel_rfl)
set_option maxRecDepth 100000 in
theorem ex_bytes:pureCall E.P (L E) 13 [exV 6]=some (.tuple ⟨[.string ⟨⟨exS⟩⟩,.int .i64 0]⟩):=pure_byT rT_ok 60 (by kernel_rfl)
set_option maxRecDepth 100000 in
theorem ex_sol:pureCall E.P (L E) 15 [exV 6,.int .i64 0,.int .i64 2]=some (.tuple ⟨[lst false [.agg ⟨[.int .i64 0,.int .i64 9,lst false [rV 2 2 4 5]]⟩],.int .i64 0]⟩):=pure_byT rT_ok 60 (by kernel_rfl)
set_option maxRecDepth 100000 in
theorem ex_sol2:pureCall E.P (L E) 15 [exV 6,.int .i64 1,.int .i64 9]=some (.tuple ⟨[lst false [.agg ⟨[.int .i64 6,.int .i64 9,lst false [rV 2 2 4 5]]⟩],.int .i64 0]⟩):=pure_byT rT_ok 60 (by kernel_rfl)
set_option maxRecDepth 100000 in
theorem ex_split:pureCall E.P (L E) 17 [exV 6,.int .i64 1]=some (.tuple ⟨[.agg ⟨[.int .i64 7,lst false [.agg ⟨[lst false (volR.vals [⟨2,2,4,5,0,6,0,3,false⟩]),.slice none 0 0]⟩]]⟩,.agg ⟨[.int .i64 7,lst false [.agg ⟨[lst false (volR.vals [⟨2,2,4,5,6,9,1,0,false⟩]),lst false (entR.vals [([114,111,97,100,115],50)])]⟩]]⟩,.bool true]⟩):=pure_byT rT_ok 60 (by kernel_rfl)
set_option maxRecDepth 100000 in
theorem ex_split2:pureCall E.P (L E) 17 [exV 6,.int .i64 2]=some (.tuple ⟨[.agg ⟨[.int .i64 0,.slice none 0 0]⟩,.agg ⟨[.int .i64 0,.slice none 0 0]⟩,.bool false]⟩):=pure_byT rT_ok 60 (by kernel_rfl)
set_option maxRecDepth 100000 in
theorem ex_same:pureCall E.P (L E) 20 [drV (some false) (exD 6),exV 6]=some (.bool true):=pure_byT rT_ok 60 (by kernel_rfl)
set_option maxRecDepth 100000 in
theorem ex_same2:pureCall E.P (L E) 30 [exV 6,exV 6]=some (.bool true):=pure_byT rT_ok 60 (by kernel_rfl)
set_option maxRecDepth 100000 in
theorem ex_rv:pureCall E.P (L E) 28 [.agg ⟨volR.enc ⟨0,0,0,0,0,0,0,0,false⟩⟩]=some (.bool false):=pure_byT rT_ok 60 (by kernel_rfl)
set_option maxRecDepth 100000 in
theorem ex_probe:pureCall E.P (L E) 35 [loV 3 (rV 0 0 5 4),rV 3 1 2 1]=some (.tuple ⟨[prbX,.bool true]⟩):=pure_byT rT_ok 60 (by kernel_rfl)
set_option maxRecDepth 100000 in
theorem ex_same3:pureCall E.P (L E) 20 [prbX,prbX]=some (.bool true):=pure_byT rT_ok 60 (by kernel_rfl)
set_option maxRecDepth 100000 in
theorem ex_right:pureCall E.P (L E) 23 [plV capV,loV 7 (rV 2 2 4 5),exV 6]=some (.bool true):=pure_byT rT_ok 60 (by kernel_rfl)
set_option maxRecDepth 100000 in
theorem ex_right0:pureCall E.P (L E) 23 [plV (.slice none 0 0),loV 7 (rV 2 2 4 5),exV 6]=some (.bool false):=pure_byT rT_ok 60 (by kernel_rfl)
theorem ex_readF:readF formB exS=some (exD 6):=by kernel_rfl
theorem ex_readN:readF formB []=none:=by kernel_rfl
end Go.Proofs.YtplebjehcgcdeaaGreatDoor.Bm
namespace Go.Proofs.YtplebjehcgcdeaaGreatDoor.Bm
open Go Go.RowKit
def rB:List (FuncId × RFn):=[(93,r93),(72,r72),(70,r70),(71,r71),(151,r151),(152,r152),(136,r136),(105,r105),(37,r37),(191,r191),(78,r78),(160,r160),(161,r161),(162,r162),(163,r163),(164,r164),(103,r103),(104,r104),(204,r204),(205,r205),(206,r206),(207,r207),(208,r208),(209,r209),(228,r228),(231,r231),(232,r232)]
theorem rB_ok:∀ p∈rB,rfnOf E p.1=some p.2∧E.orc p.1=none:=by
 unfold rB
 simp only [List.forall_mem_cons]
 exact ⟨⟨F93,rfl⟩,⟨F72,rfl⟩,⟨F70,rfl⟩,⟨F71,rfl⟩,⟨F151,rfl⟩,⟨F152,rfl⟩,⟨F136,rfl⟩,⟨F105,rfl⟩,⟨F37,rfl⟩,⟨F191,rfl⟩,⟨F78,rfl⟩,⟨F160,rfl⟩,⟨F161,rfl⟩,⟨F162,rfl⟩,⟨F163,rfl⟩,⟨F164,rfl⟩,⟨F103,rfl⟩,⟨F104,rfl⟩,⟨F204,rfl⟩,⟨F205,rfl⟩,⟨F206,rfl⟩,⟨F207,rfl⟩,⟨F208,rfl⟩,⟨F209,rfl⟩,⟨F228,rfl⟩,⟨F231,rfl⟩,⟨F232,rfl⟩,fun p hp=>by cases hp⟩
set_option maxRecDepth 100000 in
theorem ex_base0:pureCall E.P (L E) 93 [loV 3 (rV 0 0 5 4),.int .i64 0]=some (.tuple ⟨[rV 0 0 5 4,.bool true]⟩):=pure_byT rB_ok 60 (by kernel_rfl)
set_option maxRecDepth 100000 in
theorem ex_base1:pureCall E.P (L E) 93 [loV 3 (rV 0 0 5 4),.int .i64 1]=some (.tuple ⟨[rV 1 1 4 3,.bool true]⟩):=pure_byT rB_ok 60 (by kernel_rfl)
set_option maxRecDepth 100000 in
theorem ex_base2:pureCall E.P (L E) 93 [loV 3 (rV 0 0 5 4),.int .i64 2]=some (.tuple ⟨[rV 0 0 0 0,.bool false]⟩):=pure_byT rB_ok 60 (by kernel_rfl)
set_option maxRecDepth 100000 in
theorem ex_base3:pureCall E.P (L E) 93 [loV 3 (rV 0 0 5 4),.int .i64 3]=some (.tuple ⟨[rV 0 0 0 0,.bool false]⟩):=pure_byT rB_ok 60 (by kernel_rfl)
set_option maxRecDepth 100000 in
theorem ex_base4:pureCall E.P (L E) 93 [loV 3 (rV 0 0 5 4),.int .i64 4]=some (.tuple ⟨[rV 0 0 0 0,.bool false]⟩):=pure_byT rB_ok 60 (by kernel_rfl)
set_option maxRecDepth 100000 in
theorem ex_base5:pureCall E.P (L E) 93 [loV 3 (rV 0 0 5 4),.int .i64 5]=some (.tuple ⟨[rV 0 0 0 0,.bool false]⟩):=pure_byT rB_ok 60 (by kernel_rfl)
set_option maxRecDepth 100000 in
theorem ex_base6:pureCall E.P (L E) 93 [loV 3 (rV 0 0 5 4),.int .i64 6]=some (.tuple ⟨[rV 0 0 0 0,.bool false]⟩):=pure_byT rB_ok 60 (by kernel_rfl)
set_option maxRecDepth 100000 in
theorem ex_base7:pureCall E.P (L E) 93 [loV 3 (rV 0 0 5 4),.int .i64 7]=some (.tuple ⟨[rV 0 0 0 0,.bool false]⟩):=pure_byT rB_ok 60 (by kernel_rfl)
set_option maxRecDepth 100000 in
theorem ex_base8:pureCall E.P (L E) 93 [loV 3 (rV 0 0 5 4),.int .i64 8]=some (.tuple ⟨[rV 0 0 0 0,.bool false]⟩):=pure_byT rB_ok 60 (by kernel_rfl)
set_option maxRecDepth 100000 in
theorem ex_base9:pureCall E.P (L E) 93 [loV 3 (rV 0 0 5 4),.int .i64 9]=some (.tuple ⟨[rV 0 0 0 0,.bool false]⟩):=pure_byT rB_ok 60 (by kernel_rfl)
set_option maxRecDepth 100000 in
theorem ex_base10:pureCall E.P (L E) 93 [loV 3 (rV 0 0 5 4),.int .i64 10]=some (.tuple ⟨[rV 0 0 0 0,.bool false]⟩):=pure_byT rB_ok 60 (by kernel_rfl)
set_option maxRecDepth 100000 in
theorem ex_base11:pureCall E.P (L E) 93 [loV 3 (rV 0 0 5 4),.int .i64 11]=some (.tuple ⟨[rV 0 0 0 0,.bool false]⟩):=pure_byT rB_ok 60 (by kernel_rfl)
set_option maxRecDepth 100000 in
theorem ex_base12:pureCall E.P (L E) 93 [loV 3 (rV 0 0 5 4),.int .i64 12]=some (.tuple ⟨[rV 0 0 0 0,.bool false]⟩):=pure_byT rB_ok 60 (by kernel_rfl)
set_option maxRecDepth 100000 in
theorem ex_base13:pureCall E.P (L E) 93 [loV 3 (rV 0 0 5 4),.int .i64 13]=some (.tuple ⟨[rV 0 0 0 0,.bool false]⟩):=pure_byT rB_ok 60 (by kernel_rfl)
set_option maxRecDepth 100000 in
theorem ex_base14:pureCall E.P (L E) 93 [loV 3 (rV 0 0 5 4),.int .i64 14]=some (.tuple ⟨[rV 0 0 0 0,.bool false]⟩):=pure_byT rB_ok 60 (by kernel_rfl)
set_option maxRecDepth 100000 in
theorem ex_base15:pureCall E.P (L E) 93 [loV 3 (rV 0 0 5 4),.int .i64 15]=some (.tuple ⟨[rV 0 0 0 0,.bool false]⟩):=pure_byT rB_ok 60 (by kernel_rfl)
set_option maxRecDepth 100000 in
theorem ex_base16:pureCall E.P (L E) 93 [loV 3 (rV 0 0 5 4),.int .i64 16]=some (.tuple ⟨[rV 0 0 0 0,.bool false]⟩):=pure_byT rB_ok 60 (by kernel_rfl)
set_option maxRecDepth 100000 in
theorem ex_base17:pureCall E.P (L E) 93 [loV 3 (rV 0 0 5 4),.int .i64 17]=some (.tuple ⟨[rV 0 0 0 0,.bool false]⟩):=pure_byT rB_ok 60 (by kernel_rfl)
set_option maxRecDepth 100000 in
theorem ex_base18:pureCall E.P (L E) 93 [loV 3 (rV 0 0 5 4),.int .i64 18]=some (.tuple ⟨[rV 0 0 0 0,.bool false]⟩):=pure_byT rB_ok 60 (by kernel_rfl)
set_option maxRecDepth 100000 in
theorem ex_base19:pureCall E.P (L E) 93 [loV 3 (rV 0 0 5 4),.int .i64 19]=some (.tuple ⟨[rV 0 0 0 0,.bool false]⟩):=pure_byT rB_ok 60 (by kernel_rfl)
set_option maxRecDepth 100000 in
theorem ex_base20:pureCall E.P (L E) 93 [loV 3 (rV 0 0 5 4),.int .i64 20]=some (.tuple ⟨[rV 0 0 0 0,.bool false]⟩):=pure_byT rB_ok 60 (by kernel_rfl)
set_option maxRecDepth 100000 in
theorem ex_area0:pureCall E.P (L E) 72 [rV 0 0 5 4]=some (.int .i64 20):=pure_byT rB_ok 60 (by kernel_rfl)
set_option maxRecDepth 100000 in
theorem ex_area1:pureCall E.P (L E) 72 [rV 1 1 4 3]=some (.int .i64 6):=pure_byT rB_ok 60 (by kernel_rfl)
end Go.Proofs.YtplebjehcgcdeaaGreatDoor.Bm
