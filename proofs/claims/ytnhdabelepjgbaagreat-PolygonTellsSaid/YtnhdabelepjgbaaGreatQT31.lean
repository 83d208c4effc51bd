/-
 The reference of regions: two columns combined. Conditions: lists that are not too long.
-/
import Derived.Test.YtnhdabelepjgbaaGreatQT30
import Derived.Test.YtnhdabelepjgbaaGreatQT28
import Derived.Test.YtnhdabelepjgbaaGreatQT24
import Derived.Test.YtnhdabelepjgbaaGreatQT21
namespace Go.Proofs.YtnhdabelepjgbaaGreat.Bm
open Go Go.RowKit
open Rg (Rect Pt Sd turnI gtS nxI cornF trc freeN rotM Net fstF ltPo)
def pV (b:Nat) (p:List Pt):Value:=if p=[] then .slice none 0 0 else spanR.sl b p
theorem pV_nil (b:Nat):pV b []=.slice none 0 0:=rfl
theorem pV_row {b:Nat} {p:List Pt} (h:p≠[]):pV b p=spanR.sl b p:=if_neg h
def elP:El:=⟨42,2,16,.agg ⟨[.int .i64 0,.int .i64 0]⟩,⟨some true,some 2⟩⟩
theorem trim_hold {n:Nat} {vs:List Value} {h:Heap} (h2:vs.all (below 8 n)=false):trim n vs h=h:=by
 unfold trim depth
 split
 ·rfl
 ·rw [h2];rfl
theorem bel_sl {n:Nat} {p:List Pt}:below 8 n (spanR.sl n p)=false:=by
 have hn:¬ (n<n):=Nat.lt_irrefl _
 exact decide_eq_false hn
set_option maxHeartbeats 4000000 in
theorem loop_spec {h:Heap} {D lo:Nat} {l:List Sd} {d:List Bool} {i:Nat} (hnet:Net l) (hlen:l.length≤400000) (hnear:∀ s∈l,nearS s) (hd:d.length=l.length) (hi:i<l.length) (hob:h[D]?=some (rowB d)) (hlo:lo≤D) (hP:cornF l (trc (nxI l) (l.length+1) d i).2≠[]) :
  ∃ b h',L E 43 [lst false (sideR.vals l),.slice (some ⟨D,0,none⟩) l.length l.length,.int .i64 i] h lo=some (spanR.sl b (rotM (cornF l (trc (nxI l) (l.length+1) d i).2)),h')∧h.length≤b∧h'[b]?=some (spanR.row 42 (rotM (cornF l (trc (nxI l) (l.length+1) d i).2))) ∧
   h'[D]?=some (rowB (trc (nxI l) (l.length+1) d i).1)∧∀ o x,o<h.length→o≠D→h[o]?=some x→h'[o]?=some x:=by
 have ix:∀ (i:Nat) (hi:i<l.length),indexAddrT (.sl 86 ⟨some true,some 4⟩) (lst false (sideR.vals l)) (.int .i64 (i:Int))=some (cptr (sideR.val l[i])):=fun i hi=>Rec.index_tree rfl hi
 have bS:∀ d n,below (d+1) n (lst false (sideR.vals l))=true:=fun d n=>rfl
 have rS:∀ h,reify E.P 8 h (lst false (sideR.vals l))=some (lst false (sideR.vals l)):=fun _=>rfl
 have fsp:=fun s hs=>follow_spec false l s (by omega) hs hnear
 have hf1:=Rg.freeN_le d
 have hDl:=get_lt hob
 obtain ⟨D',hD'⟩:∃ D',(trc (nxI l) (l.length+1) d i).1=D':=⟨_,rfl⟩
 obtain ⟨W,hW⟩:∃ W,(trc (nxI l) (l.length+1) d i).2=W:=⟨_,rfl⟩
 rw [hW] at hP
 rw [hD',hW]
 rw [L_fn F43 rfl]
 generalize lst false (sideR.vals l)=VS at *
 generalize hQ:cornF l W=P at *
 simp -implicitDefEqProofs [r43,p43]
 generalize hX:LL _ _ _ _=X
 obtain ⟨bp,g,rfl,p1,p2,p3,p4,p5⟩:=LL_uxk hX (α:=Nat × List Bool × Nat × List Pt × Nat × Heap) (U:=Nat) (l.length+1,d,i,[],0,h) (fun c=>[(2,.int .i64 (c.2.2.1:Int)),(7,pV c.2.2.2.2.1 c.2.2.2.1)]) (fun c=>c.2.2.2.2.2) (.exit 0) (fun bp=>[(2,undef),(7,spanR.sl bp P)])
  (fun bp g=>h.length≤bp∧g[bp]?=some (spanR.row 42 P)∧g[D]?=some (rowB D')∧(∀ o x,o<h.length→o≠D→h[o]?=some x→g[o]?=some x)∧P.length≤l.length)
  (fun c=>freeN c.2.1<c.1∧c.2.1.length=l.length∧c.2.2.1<l.length∧(trc (nxI l) c.1 c.2.1 c.2.2.1).1=D'∧c.2.2.2.1++cornF l (trc (nxI l) c.1 c.2.1 c.2.2.1).2=P∧c.2.2.2.1.length+freeN c.2.1≤l.length ∧
   c.2.2.2.2.2[D]?=some (rowB c.2.1)∧(c.2.2.2.1≠[]→h.length≤c.2.2.2.2.1∧c.2.2.2.2.2[c.2.2.2.2.1]?=some (spanR.row 42 c.2.2.2.1))∧(∀ o x,o<h.length→o≠D→h[o]?=some x→c.2.2.2.2.2[o]?=some x)∧h.length≤c.2.2.2.2.2.length) (fun c=>c.1)
  ⟨by show freeN d<l.length+1;omega,hd,hi,hD',by rw [hW];exact hQ,by show 0+freeN d≤l.length;omega,hob,fun q=>absurd rfl q,fun _ _ _ _ hx=>hx,Nat.le_refl _⟩
  (by simp -implicitDefEqProofs [k43_2,pV_nil]) rfl (by
  intro nx c hc ih
  obtain ⟨k,d1,j,p,bp,g1⟩:=c
  obtain ⟨i1,i2,i3,i4,i5,i6,i7,i8,i9,i10⟩:=hc
  simp only at i1 i2 i3 i4 i5 i6 i7 i8 i9 i10
  obtain ⟨k,rfl⟩:∃ k',k=k'+1:=⟨k-1,by omega⟩
  have dl:=get_lt i7
  have dx:∀ u:Nat,u<l.length→indexAddrT (.sl 4 ⟨some false,some 1⟩) (.slice (some ⟨D,0,none⟩) l.length l.length) (.int .i64 (u:Int))=some (cAt D u):=fun u hu=>by
   rw [index_slice,if_pos ⟨by omega,by omega⟩];simp [shift,cAt]
  have dxj:=dx j i3
  have hdj:j<d1.length:=by omega
  have ld:=obj_load (b:=D) (j:=j) (sz:=some 1) i7 (v:=.bool d1[j]) (by rw [List.getElem?_map,List.getElem?_eq_getElem hdj];rfl)
  cases hdv:d1[j]
  ·have hgt:gtS l j=l[j]:=Rg.gt_get i3
   have hnx:=(hnet.next i3).1
   have hd0:d1[j]?=some false:=by rw [List.getElem?_eq_getElem hdj,hdv]
   have hfr:=Rg.freeN_set hd0
   have e:trc (nxI l) (k+1) d1 j=((trc (nxI l) k (d1.set j true) (nxI l j)).1,j :: (trc (nxI l) k (d1.set j true) (nxI l j)).2):=by
    conv=>lhs;unfold trc
    rw [if_pos hd0]
   rw [e] at i4 i5
   simp only at i4 i5
   have ec:cornF l (j :: (trc (nxI l) k (d1.set j true) (nxI l j)).2)=(if turnI l[j] (gtS l (nxI l j))=0 then [] else [l[j].2])++cornF l (trc (nxI l) k (d1.set j true) (nxI l j)).2:=by rw [← hgt];rfl
   rw [ec,← List.append_assoc] at i5
   rw [hdv] at ld
   have st:=obj_store (b:=D) (j:=j) (lo:=lo) (v:=.bool true) i7 (by rw [List.length_map];exact hdj) hlo rfl
   have es:(d1.map Value.bool).set j (.bool true)=(d1.set j true).map .bool:=(List.map_set ..).symm
   rw [es] at st
   have st:storeT (some 1) g1 lo (.bool true) (cAt D j)=some (g1.set D (rowB (d1.set j true))):=st
   have old:∀ o x,o≠D→g1[o]?=some x→(g1.set D (rowB (d1.set j true)))[o]?=some x:=fun o x ho hx=>by rw [List.getElem?_set_ne (by omega)];exact hx
   have w7:(g1.set D (rowB (d1.set j true)))[D]?=some (rowB (d1.set j true)):=List.getElem?_set_self dl
   have w8:p≠[]→h.length≤bp∧(g1.set D (rowB (d1.set j true)))[bp]?=some (spanR.row 42 p):=fun q=>⟨(i8 q).1,old _ _ (by have:=(i8 q).1;omega) (i8 q).2⟩
   have w9:∀ o x,o<h.length→o≠D→h[o]?=some x→(g1.set D (rowB (d1.set j true)))[o]?=some x:=fun o x h1 h2 hx=>old o x h2 (i9 o x h1 h2 hx)
   have hGl:(g1.set D (rowB (d1.set j true))).length=g1.length:=List.length_set
   generalize hG:g1.set D (rowB (d1.set j true))=G at *
   have ej:=ix j i3
   rw [side_val] at ej
   have hnj:nearS l[j]:=hnear _ (List.getElem_mem i3)
   have fj:=fsp l[j] hnj
   have efn:=fol_nx hnet i3
   rw [hgt] at efn
   rw [efn] at fj
   have tx:=turn7_spec l[j] l[nxI l j] hnj (hnear _ (List.getElem_mem hnx))
   have egn:gtS l (nxI l j)=l[nxI l j]:=Rg.gt_get hnx
   have ejn:=ix (nxI l j) hnx
   rw [side_val] at ejn
   rw [egn] at i5
   by_cases ht:turnI l[j] l[nxI l j]=0
   ·rw [if_pos ht,List.append_nil] at i5
    have ih:=ih (k,d1.set j true,nxI l j,p,bp,G) (Nat.lt_succ_self k) ⟨by show freeN (d1.set j true)<k;omega,by show (d1.set j true).length=_;rw [List.length_set];exact i2,hnx,i4,i5,by show p.length+freeN (d1.set j true)≤_;omega,w7,w8,w9,by show h.length≤G.length;omega⟩
    simp -implicitDefEqProofs [k43_2] at ih
    simp -implicitDefEqProofs [r43_2,k43_2,dxj,ld,st,ej,ejn,rS,ret0 m60,fj,ret0 m61,tx,ht,trim_le,hGl]
    exact ih
   ·rw [if_neg ht] at i5
    by_cases hp:p=[]
    ·subst hp
     have sc:∀ h:Heap,sliceCells h 2 (lst true [.agg ⟨[.int .i64 l[j].2.1,.int .i64 l[j].2.2]⟩])=some ([.int .i64 l[j].2.1,.int .i64 l[j].2.2],1):=fun h=>Rec.cells_tree (R:=spanR) rfl [l[j].2]
     have ih:=ih (k,d1.set j true,nxI l j,[]++[l[j].2],G.length,G++[spanR.row 42 [l[j].2]]) (Nat.lt_succ_self k) ⟨by show freeN (d1.set j true)<k;omega,by show (d1.set j true).length=_;rw [List.length_set];exact i2,hnx,i4,i5,by show ([]++[l[j].2]).length+freeN (d1.set j true)≤_;show 1+_≤_;have:([]:List Pt).length+freeN d1≤l.length:=i6;have e0:([]:List Pt).length=0:=rfl;omega,
      by rw [List.getElem?_append_left (by omega)];exact w7,fun _=>⟨by show h.length≤G.length;omega,end0⟩,fun o x h1 h2 hx=>by rw [List.getElem?_append_left (by omega)];exact w9 o x h1 h2 hx,by show h.length≤(G++[_]).length;rw [List.length_append];omega⟩
     have hpV:pV G.length ([]++[l[j].2])=.slice (some ⟨G.length,0,some 2⟩) 1 1:=rfl
     have hrw:spanR.row 42 [l[j].2]=.cells 42 [.int .i64 l[j].2.1,.int .i64 l[j].2.2] 2:=rfl
     have hb:below 8 g1.length (.slice (some ⟨g1.length,0,some 2⟩) 1 1)=false:=by rw [← hGl];exact bel_sl (p:=[l[j].2])
     simp -implicitDefEqProofs [k43_2,hpV,hrw,hGl] at ih
     simp -implicitDefEqProofs [r43_2,k43_2,dxj,ld,st,ej,ejn,rS,ret0 m60,fj,ret0 m61,tx,ht,pV_nil,lit_pt,sc,hGl,trim_hold,hb]
     exact ih
    ·have i8:=i8 hp
     have w8:=w8 hp
     have ap:=app_pt (h:=G) (b:=bp) (lo:=lo) (c:=p) l[j].2 w8.2 (by omega) (by omega)
     have hGb:(G.set bp (spanR.row 42 (p++[l[j].2]))).length=g1.length:=by rw [List.length_set];exact hGl
     have ih:=ih (k,d1.set j true,nxI l j,p++[l[j].2],bp,G.set bp (spanR.row 42 (p++[l[j].2]))) (Nat.lt_succ_self k) ⟨by show freeN (d1.set j true)<k;omega,by show (d1.set j true).length=_;rw [List.length_set];exact i2,hnx,i4,i5,by show (p++[l[j].2]).length+freeN (d1.set j true)≤_;rw [List.length_append];show p.length+1+_≤_;omega,
      by rw [List.getElem?_set_ne (by omega)];exact w7,fun _=>⟨w8.1,List.getElem?_set_self (get_lt w8.2)⟩,fun o x h1 h2 hx=>by rw [List.getElem?_set_ne (by omega)];exact w9 o x h1 h2 hx,by show h.length≤(G.set bp _).length;rw [List.length_set];omega⟩
     have hpV:pV bp (p++[l[j].2])=spanR.sl bp (p++[l[j].2]):=pV_row (by simp)
     have hp0:pV bp p=spanR.sl bp p:=pV_row hp
     simp -implicitDefEqProofs [k43_2,hpV] at ih
     simp -implicitDefEqProofs [r43_2,k43_2,dxj,ld,st,ej,ejn,rS,ret0 m60,fj,ret0 m61,tx,ht,hp0,lit_pt,ap,hGb,trim_le]
     exact ih
  ·have e:trc (nxI l) (k+1) d1 j=(d1,[]):=by
    unfold trc
    rw [if_neg (by rw [List.getElem?_eq_getElem hdj,hdv];simp)]
   rw [e] at i4 i5
   have i4:d1=D':=i4
   have i5:p++[]=P:=i5
   rw [List.append_nil] at i5
   subst i4
   rw [hdv] at ld
   have hp:p≠[]:=by rw [i5];exact hP
   have hp0:pV bp P=spanR.sl bp P:=pV_row hP
   have i8:=i8 hp
   refine ⟨bp,g1,?_,i8.1,by rw [← i5];exact i8.2,i7,i9,by rw [← i5];omega⟩
   simp -implicitDefEqProofs [r43_2,k43_2,dxj,ld,hp0,i5,trim_le])
 -- the least corner
 have hPl:P.length≤400000:=by omega
 cases P with
 | nil=>exact absurd rfl hP
 | cons a q =>
  obtain ⟨f1,f2⟩:=Rg.fst_rot a q
  rw [List.length_cons] at hPl
  have ln:∀ h,lenT .sl h (spanR.sl bp (a :: q))=some (.int .i64 ((q.length:Int)+1)):=fun h=>(Rec.sl_len (R:=spanR)).trans (by rw [List.length_cons];rfl)
  have pix:∀ (j:Nat) (hj:j<(a :: q).length),indexAddrT (.sl 42 ⟨some true,some 2⟩) (spanR.sl bp (a :: q)) (.int .i64 (j:Int))=some (Rec.at_ (R:=spanR) bp (a :: q) j 0):=fun j hj=>Rec.index_row rfl hj
  have pld:∀ (j:Nat) (hj:j<(a :: q).length),loadT ⟨some true,some 2⟩ g (Rec.at_ (R:=spanR) bp (a :: q) j 0)=some (spanR.val (a :: q)[j]):=fun j hj=>Rec.load_row rfl p2 hj
  simp -implicitDefEqProofs [k43_2]
  rw [LL_for (γ:=Nat) q 0 (fun i f=>[(9,.int .i64 (f:Int)),(10,.int .i64 ((i+1:Nat):Int))]) (fun _ _=>g) (fun i rest f=>(.exit 2,[(9,.int .i64 (fstF (a :: q) (i+1) rest f:Int)),(10,undef)],g)) (fun i f=>f≤i) (by omega) (Nat.le_refl _)]
  ·have fz:=Rec.freeze_row (R:=spanR) (P:=E.P) (lo:=lo) (h:=g) (b:=bp) p2 zP aPt7 (by omega)
   rw [if_neg (by rw [List.length_cons];omega)] at fz
   have q3:∀ o x,o≠bp→g[o]?=some x→(g.set bp .dead)[o]?=some x:=fun o x ho hx=>by rw [List.getElem?_set_ne (by omega)];exact hx
   have hGl:(g.set bp .dead).length=g.length:=List.length_set
   have hgl:h.length≤g.length:=by have:=get_lt p2;omega
   generalize hG:g.set bp .dead=G at *
   have ef:fstF (a :: q) (0+1) q 0=fstF (a :: q) 1 q 0:=rfl
   rw [ef]
   generalize fstF (a :: q) 1 q 0=f at *
   have vl:(spanR.vals (a :: q)).length=(a :: q).length:=Rec.vals_len
   have s1:=fun h=>slice_drop (t:=42) (g:=some true) (h:=h) (k:=.i64) (n:=f) (z:=(f:Int)) (s:=2) (x:=false) (Rec.vals_all (R:=spanR) (a :: q)) rfl (by omega)
   have s2:=fun h=>slice_take (t:=42) (g:=some true) (h:=h) (k:=.i64) (n:=f) (s:=2) (x:=false) (Rec.vals_all (R:=spanR) (a :: q)) (by omega)
   have v1:(spanR.vals (a :: q)).drop f=spanR.vals ((a :: q).drop f):=by unfold Rec.vals;rw [List.map_drop]
   have v2:(spanR.vals (a :: q)).take f=spanR.vals ((a :: q).take f):=by unfold Rec.vals;rw [List.map_take]
   rw [v1] at s1
   rw [v2] at s2
   have ld:((a :: q).drop f).length≤500000:=by rw [List.length_drop,List.length_cons];omega
   have lt':((a :: q).take f).length≤500000:=by rw [List.length_take,List.length_cons];omega
   have hne:(a :: q).drop f≠[]:=by
    intro e
    have:=congrArg List.length e
    rw [List.length_drop] at this
    simp at this;simp at f1;omega
   generalize (false && f == (spanR.vals (a :: q)).length)=y at *
   generalize (a :: q).drop f=A at *
   generalize (a :: q).take f=B at *
   have a1:appendT (some ⟨42,2,16,.agg ⟨[.int .i64 0,.int .i64 0]⟩,⟨some true,some 2⟩⟩) G lo true (lst true []) (lst false (spanR.vals A))=some (spanR.sl G.length A,G++[spanR.row 42 A]):=by
    have hn:A.length≠0:=fun e=>hne (List.eq_nil_of_length_eq_zero e)
    have hc:sliceCells G 2 (lst false (spanR.vals A))=some (spanR.flat A,A.length):=Rec.cells_tree (R:=spanR) rfl A
    unfold appendT
    simp only [Option.bind_some,hc]
    show (if A.length=0 then _ else _)=_
    rw [if_neg hn,if_pos ⟨rfl,rfl,by show (0+A.length) * 16≤2 ^ 47;omega⟩]
    have hf:=Rec.flat_len (R:=spanR) (l:=A)
    have hm:spanR.m+1=2:=rfl
    unfold Rec.sl Rec.row
    rw [hm] at *
    simp [hf]
    rfl
   have a2:=Rec.app (R:=spanR) (el:=elP) (h:=G++[spanR.row 42 A]) (lo:=lo) (b:=G.length) (m:=B) (u:=lst y (spanR.vals B)) rfl (show (G++[spanR.row 42 A])[G.length]?=some (spanR.row 42 A) from end0) (Rec.cells_tree (R:=spanR) rfl B) (by omega) (by show (A.length+B.length) * 16≤2 ^ 47;omega)
   rw [f2] at a2
   unfold elP at a2
   have e0:buildSliceT (some ⟨42,2,16,.agg ⟨[.int .i64 0,.int .i64 0]⟩,⟨some true,some 2⟩⟩) false G 0 #[]=some (lst true [],G):=rfl
   refine ⟨G.length,(G++[spanR.row 42 A]).set G.length (spanR.row 42 (rotM (a :: q))),?_,by omega,List.getElem?_set_self (by rw [List.length_append];show G.length<G.length+1;omega),?_,fun o x h1 h2 hx=>?_⟩
   ·simp -implicitDefEqProofs [k43_10,prep_frz,fz,e0,s1,s2,a1,a2]
    done
   ·rw [List.getElem?_set_ne (by omega),List.getElem?_append_left (by omega)];exact q3 D _ (by omega) p3
   ·rw [List.getElem?_set_ne (by omega),List.getElem?_append_left (by omega)];exact q3 o x (by omega) (p4 o x h1 h2 hx)
  ·simp -implicitDefEqProofs [k43_10]
  ·rfl
  ·intro nx i c hi _
   have h1:¬ (((i+1:Nat):Int)<(q.length:Int)+1):=by omega
   have e0:fstF (a :: q) (i+1) [] c=c:=rfl
   rw [e0]
   simp -implicitDefEqProofs [r43_10,k43_10,ln,h1,trim_le,-Int.natCast_add]
  ·intro nx i v rest c hi hv hdr hw hc ih
   have h1:((i+1:Nat):Int)<(q.length:Int)+1:=by omega
   have wi:IntKind.i64.wrap (((i+1:Nat):Int)+1)=((i+1+1:Nat):Int):=(wrap64 (by omega) (by omega)).trans (by omega)
   have hj1:i+1<(a :: q).length:=by rw [List.length_cons];omega
   have hj2:c<(a :: q).length:=by rw [List.length_cons];omega
   have x1:=pix (i+1) hj1
   have x2:=pix c hj2
   have y1:=pld (i+1) hj1
   have y2:=pld c hj2
   rw [List.getElem_cons_succ,hv,span_val] at y1
   have eg:(a :: q).getD c (0,0)=(a :: q)[c]:=by rw [List.getD_eq_getElem?_getD,List.getElem?_eq_getElem hj2];rfl
   rw [span_val] at y2
   have ls:=less_spec v (a :: q)[c]
   have el:Rg.ltP v (a :: q)[c]=ltPo v ((a :: q).getD c (0,0)):=by rw [eg];rfl
   rw [el] at ls
   have e1:fstF (a :: q) (i+1) (v :: rest) c=fstF (a :: q) (i+1+1) rest (if ltPo v ((a :: q).getD c (0,0))=true then i+1 else c):=rfl
   rw [e1]
   have ih1:=ih (i+1) (Nat.le_refl _)
   have ih2:=ih c (by omega)
   clear e1 el eg
   obtain ⟨u,hu⟩:∃ u,(a :: q)[c]=u:=⟨_,rfl⟩
   rw [hu] at y2 ls
   clear hu
   generalize ltPo v ((a :: q).getD c (0,0))=B at *
   simp -implicitDefEqProofs [k43_10,-Int.natCast_add] at ih1 ih2
   cases B
   ·simp -implicitDefEqProofs [r43_10,k43_10,ln,h1,x1,x2,y1,y2,ret0 m28,ls,wi,trim_le,-Int.natCast_add]
    exact ih2
   ·simp -implicitDefEqProofs [r43_10,k43_10,ln,h1,x1,x2,y1,y2,ret0 m28,ls,wi,trim_le,-Int.natCast_add]
    exact ih1
open Rg (Rect Pt Sd bdL bdH botR topR xsB ysB endsX begsX upL loopsL Net ltPo csum ssum Addt Form Apart)
theorem upL_mem {x:Int} {A B:List Rect} {s:Sd}:∀ {ys:List Int},s∈upL x A B ys→s.1.1=x∧s.2.1=x∧s.1.2∈ys∧s.2.2∈ys
 | [],h=>absurd h List.not_mem_nil
 | [_],h=>absurd h List.not_mem_nil
 | u :: v :: ys,h=>by
  have e:upL x A B (u :: v :: ys)=(if (Rg.inY A u && !Rg.inY B u)=true then [((x,u),(x,v))] else if (Rg.inY B u && !Rg.inY A u)=true then [((x,v),(x,u))] else [])++upL x A B (v :: ys):=rfl
  rw [e] at h
  rcases List.mem_append.1 h with q | q
  ·split at q
   ·rw [List.mem_singleton.1 q];simp
   ·split at q
    ·rw [List.mem_singleton.1 q];simp
    ·cases q
  ·obtain ⟨a,b,c,d⟩:=upL_mem q
   exact ⟨a,b,List.mem_cons_of_mem _ c,List.mem_cons_of_mem _ d⟩
theorem bd_near {a:List Rect} (h:∀ r∈a,okR r=true):∀ s∈bdL a,nearS s:=by
 have hb:∀ r∈a,0≤r.x0∧r.x0≤1048576∧0≤r.y0∧r.y0≤1048576∧0≤r.x1∧r.x1≤1048576∧0≤r.y1∧r.y1≤1048576:=fun r hr=>by
  have:=okR_iff.1 (h r hr)
  unfold Rect.inBox at this
  omega
 intro s hs
 unfold bdL at hs
 rcases List.mem_append.1 hs with q | q
 ·unfold bdH at q
  obtain ⟨r,hr,q⟩:=List.mem_flatMap.1 q
  have:=hb r hr
  rcases List.mem_cons.1 q with e | e
  ·rw [e];unfold nearS botR;simp only;omega
  ·rw [List.mem_singleton.1 e];unfold nearS topR;simp only;omega
 ·obtain ⟨x,hx,q⟩:=List.mem_flatMap.1 q
  obtain ⟨r,hr,hxr⟩:=Rg.xs_mem.1 hx
  obtain ⟨e1,e2,e3,e4⟩:=upL_mem q
  have hy:∀ y∈ysB (endsX a x) (begsX a x),0≤y∧y≤1048576:=fun y hy=>by
   obtain ⟨t,ht,hty⟩:=Rg.ys_mem.1 hy
   have hta:t∈a:=by
    rcases ht with ht | ht
    ·exact (List.mem_filter.1 ht).1
    ·exact (List.mem_filter.1 ht).1
   have:=hb t hta
   omega
  have h1:=hy _ e3
  have h2:=hy _ e4
  have:=hb r hr
  unfold nearS
  omega
theorem bd_len {a:List Rect} (ha:a.length≤200):(bdL a).length≤400000:=by
 have h1:=bdH_len a
 have h2:=flatMap_le (fun x=>colX_len a x ha) (xsB a)
 have h3:(xsB a).length≤(xsL a).length:=Rg.sortU_le _
 have h4:=xsL_len a
 show (bdH a++(xsB a).flatMap (Rg.colX a)).length≤400000
 rw [List.length_append]
 have h5:(xsB a).length≤400:=by omega
 have h6:(xsB a).length * 800≤400 * 800:=Nat.mul_le_mul_right _ h5
 omega
theorem regB_net {a:List Rect} (hr:regB a=true):Net (bdL a):=Rg.bd_net (regB_iff.1 hr).2.2.apart
theorem outline_spec (k:Option Bool) (a:List Rect) (hk:Rec.Ok k a) (hr:regB a=true):pureCall E.P (L E) 14 [rectR.o k a]=some (lst false (ptsE.vals (outL (bdL a)))):=by
 obtain ⟨h1,h2,h3⟩:=regB_iff.1 hr
 exact outline_walk k a hk h2 hr (regB_net hr) (bd_len h2) (bd_near (List.all_eq_true.1 h1))
section
variable {l:List Sd} (hl:Net l)
include hl
theorem out_asc:(outL l).Pairwise fun p q=>ltPo (p.headD (0,0)) (q.headD (0,0))=true:=by
 have hle:∀ p q,leP p q = !ltK (q.headD (0,0)) (p.headD (0,0)):=fun p q=>by
  unfold leP leV
  rw [key_pts,key_pts]
 have hlt:∀ a b:Pt,ltK a b=ltPo a b:=fun _ _=>rfl
 have h1:(outL l).Pairwise fun p q=>leP p q=true:=by
  refine List.pairwise_mergeSort (fun a b c h1 h2=>?_) (fun a b=>?_) _
  ·rw [hle,Bool.not_eq_true',ltK_false] at *
   omega
  ·rw [hle,hle]
   cases q:ltK (b.headD (0,0)) (a.headD (0,0))
   ·rfl
   ·have:=Rg.ltP_asym (a:=b.headD (0,0)) (b:=a.headD (0,0)) q
    rw [hlt,this];rfl
 have h2:((outL l).map fun p=>p.headD (0,0)).Nodup:=((List.mergeSort_perm (loopsL l) leP).map _).nodup_iff.2 (Rg.loops_heads hl)
 have h3:(outL l).Pairwise fun p q=>p.headD (0,0)≠q.headD (0,0):=List.pairwise_map.1 h2
 refine (h1.and h3).imp ?_
 rintro p q ⟨a,b⟩
 rw [hle,hlt] at a
 rcases Rg.ltP_tri (p.headD (0,0)) (q.headD (0,0)) with c | c | c
 ·exact c
 ·exact absurd c b
 ·rw [c] at a;cases a
end
open Rg (Rect scan scan_le putAt sortU edgesX own colC colF gstep ends)
theorem xsL_app (a b:List Rect):xsL a++xsL b=xsL (a++b):=List.flatMap_append.symm
theorem edges_spec (k m:Option Bool) (a b:List Rect) (hk:Rec.Ok k a) (hm:Rec.Ok m b) (ha:a.length≤1000) (hb:b.length≤1000):pureCall E.P (L E) 48 [rectR.o k a,rectR.o m b]=some (iT (edgesX (a++b))):=by
 have sp:=sorted_spec (xsL (a++b)) (by rw [xsL_len,List.length_append];omega)
 rw [pureCall_fn F48 rfl]
 simp -implicitDefEqProofs [r48,p48,prep_new,newK_nil s3]
 rw [LL_for (γ:=List Int) a [] (fun i c=>[(5,intR.sl 0 c),(6,.int .i64 i)]) (fun _ c=>[intR.row 3 c])
  (fun _ rest c=>(.exit 0,[(5,intR.sl 0 (c++xsL rest)),(6,undef)],[intR.row 3 (c++xsL rest)])) (fun i c=>c.length=2 * i) (by omega) rfl]
 ·rw [List.nil_append]
  simp -implicitDefEqProofs [k48_3]
  rw [LL_for (γ:=List Int) b (xsL a) (fun i c=>[(5,intR.sl 0 c),(7,.int .i64 i)]) (fun _ c=>[intR.row 3 c])
   (fun _ rest c=>(.exit 2,[(5,intR.sl 0 (c++xsL rest)),(7,undef)],[intR.row 3 (c++xsL rest)])) (fun i c=>c.length=2 * a.length+2 * i) (by omega) (xsL_len a)]
  ·obtain ⟨g,fz⟩:=int_freeze (h:=[intR.row 3 (xsL (a++b))]) (b:=0) (lo:=0) (l:=xsL (a++b)) rfl (Nat.le_refl _)
   have e:iT (sortU (xsL (a++b)))=iT (edgesX (a++b)):=rfl
   rw [xsL_app]
   simp -implicitDefEqProofs [k48_7,prep_frz,fz,ret1 m74,iT_set,sp,e]
   rfl
  ·simp -implicitDefEqProofs [k48_7]
  ·rfl
  ·intro nx i c hi _
   simp -implicitDefEqProofs [r48_7,k48_7,hi,Rec.o_len hm,trim_le,xsL]
  ·intro nx i r rest c hi hv hd hw hc ih
   have ixi:=Rec.o_index (R:=rectR) (t:=39) (kk:=.i64) (s:=4) rfl hm hi
   rw [hv] at ixi
   have ap:=app_two' (h:=[intR.row 3 c]) (b:=0) (lo:=0) (c:=c) r.x0 r.x1 rfl (Nat.le_refl _) (by omega)
   have ih:=ih (c++[r.x0,r.x1]) (by simp;omega)
   rw [xsL_cons,← List.append_assoc]
   simp -implicitDefEqProofs [k48_7,-List.append_assoc] at ih
   simp -implicitDefEqProofs [r48_7,k48_7,hi,ixi,Rec.o_len hm,rect_val,lit_two,ap,hw,trim_le,-List.append_assoc]
   exact ih
 ·simp -implicitDefEqProofs [k48_3,Rec.sl_nil]
 ·rfl
 ·intro nx i c hi _
  simp -implicitDefEqProofs [r48_3,k48_3,hi,Rec.o_len hk,trim_le,xsL]
 ·intro nx i r rest c hi hv hd hw hc ih
  have ixi:=Rec.o_index (R:=rectR) (t:=39) (kk:=.i64) (s:=4) rfl hk hi
  rw [hv] at ixi
  have ap:=app_two' (h:=[intR.row 3 c]) (b:=0) (lo:=0) (c:=c) r.x0 r.x1 rfl (Nat.le_refl _) (by omega)
  have ih:=ih (c++[r.x0,r.x1]) (by simp;omega)
  rw [xsL_cons,← List.append_assoc]
  simp -implicitDefEqProofs [k48_3,-List.append_assoc] at ih
  simp -implicitDefEqProofs [r48_3,k48_3,hi,ixi,Rec.o_len hk,rect_val,lit_two,ap,hw,trim_le,-List.append_assoc]
  exact ih
theorem ints_spec (l r:List Int) (hl:l.length≤1000000):pureCall E.P (L E) 51 [iT l,iT r]=some (.bool (decide (l=r))):=by
 rw [pureCall_fn F51 rfl]
 simp -implicitDefEqProofs [r51,padS,iT_len]
 by_cases hlen:l.length=r.length
 ·simp -implicitDefEqProofs [hlen]
  rw [LL_for (γ:=Unit) l () (fun i _=>[(5,.int .i64 i)]) (fun _ _=>[]) (fun i rest _=>if eqL rest (r.drop i) then (.exit 0,[(5,undef)],[]) else (.ret,[(4,.bool false),(5,undef)],[])) (fun _ _=>True) (by omega) trivial]
  ·cases h:eqL l r
   ·have:¬ l=r:=of_decide_eq_false h
    simp -implicitDefEqProofs [this,k51_4,h]
   ·have:l=r:=of_decide_eq_true h
    simp -implicitDefEqProofs [this,k51_4,eqL]
  ·simp -implicitDefEqProofs [k51_4]
  ·rfl
  ·intro nx i c hi _
   have hd0:eqL [] (r.drop i)=true:=by rw [List.drop_eq_nil_of_le (by omega)];rfl
   rw [hd0]
   simp -implicitDefEqProofs [r51_4,k51_4,iT_len,hi,hlen,trim_le]
  ·intro nx i v rest c hi hv hd hw _ ih
   have ih:=ih () trivial
   have hi':i<r.length:=by omega
   have hrd:r.drop i=r[i] :: r.drop (i+1):=List.drop_eq_getElem_cons hi'
   have ixl:=iT_index hi
   have ixr:=iT_index hi'
   rw [hv] at ixl
   rw [hrd,eqL_cons]
   simp -implicitDefEqProofs [k51_4] at ih
   by_cases he:v=r[i]
   ·rw [he] at ixl
    simp -implicitDefEqProofs [r51_4,k51_4,iT_len,hi',hlen,ixl,ixr,hw,he,trim_le]
    exact ih
   ·simp -implicitDefEqProofs [r51_4,k51_4,iT_len,hi',hlen,ixl,ixr,he,trim_le]
 ·have:¬ l=r:=fun e=>hlen (by rw [e])
  have hlen':¬ ((l.length:Int)=r.length):=by omega
  simp -implicitDefEqProofs [hlen',this]
open Rg (Rect scan scan_le putAt sortU edgesX own own_cons colC colF gstep ends)
def insC (c:List (Int × Int)) (s:Int × Int):List (Int × Int):=putAt c (scan (fun j=>decide (s.1<(c.map (·.1)).getD j 0)) c.length) s
theorem insC_fold:∀ (l c:List (Int × Int)),c.Pairwise (fun a b=>a.1≤b.1)→(l.foldl insC c).Pairwise (fun a b=>a.1≤b.1)∧(l.foldl insC c).Perm (l++c)
 | [],c,h=>⟨h,.refl _⟩
 | s :: l,c,h=>by
  obtain ⟨h1,h2⟩:=insC_fold l (insC c s) (Rg.putAt_sorted (key:=fun p:Int × Int=>p.1) h)
  refine ⟨h1,h2.trans ?_⟩
  exact ((Rg.putAt_perm c _ s).append_left l).trans List.perm_middle
theorem insC_len (c:List (Int × Int)) (s:Int × Int):(insC c s).length=c.length+1:=Rg.putAt_len _ _ _
theorem putAt_map {α β:Type} (f:α→β) (c:List α) (k:Nat) (s:α):(putAt c k s).map f=putAt (c.map f) k (f s):=by
 unfold putAt
 rw [List.map_append,List.map_take,List.map_cons,List.map_drop]
theorem ref_col {l:List Rect} (hl:∀ r∈l,r.y0<r.y1) (x:Int):((own l x).foldl insC []).foldl gstep []=colC l x:=by
 obtain ⟨h1,h2⟩:=insC_fold (own l x) [] .nil
 rw [List.append_nil] at h2
 have hs:∀ u∈(own l x).foldl insC [],u.1<u.2:=fun u hu=>by
  have hu:=h2.mem_iff.1 hu
  unfold own at hu
  obtain ⟨r,hr,rfl⟩:=List.mem_map.1 hu
  exact hl r (List.mem_filter.1 hr).1
 rw [Rg.gstep_col]
 refine (Rg.colF_can h1 hs).unique (Rg.colC_ok hl x).1 fun y=>?_
 rw [Rg.colF_has h1 hs,Rg.hasS_perm h2,Rg.own_has,(Rg.colC_ok hl x).2]
theorem ends_snoc6 (d:List (Int × Int)) (u:Int × Int):ends (d++[u])=ends d++[u.1,u.2]:=by
 unfold ends;rw [List.flatMap_append];rfl
theorem ends_last {d:List (Int × Int)} {u:Int × Int} (z:Int):(ends (d++[u])).set (2 * d.length+1) z=ends (d++[(u.1,z)]):=by
 rw [ends_snoc6,ends_snoc6,List.set_append_right _ _ (by rw [Rg.ends_len];omega),Rg.ends_len]
 rw [show 2 * d.length+1-2 * d.length=1 by omega];rfl
theorem ends_get {d:List (Int × Int)} {u:Int × Int} (h:2 * d.length+1<(ends (d++[u])).length):(ends (d++[u]))[2 * d.length+1]=u.2:=by
 have e:=ends_snoc6 d u
 have:(ends (d++[u]))[2 * d.length+1]?=some u.2:=by
  rw [e,List.getElem?_append_right (by rw [Rg.ends_len];omega),Rg.ends_len,show 2 * d.length+1-2 * d.length=1 by omega];rfl
 rw [List.getElem?_eq_getElem h] at this
 exact Option.some.inj this
theorem rcolumn_spec (k:Option Bool) (l:List Rect) (x:Int) (hk:Rec.Ok k l) (hl:l.length≤1000):pureCall E.P (L E) 50 [rectR.o k l,.int .i64 x]=some (iT (ends (((own l x).foldl insC []).foldl gstep []))):=by
 rw [pureCall_fn F50 rfl]
 simp -implicitDefEqProofs [r50,p50,prep_new,newK_nil s3]
 rw [LL_for (γ:=List (Int × Int)) l [] (fun i c=>[(5,intR.sl 0 (c.map (·.1))),(6,intR.sl 1 (c.map (·.2))),(7,.int .i64 i)]) (fun _ c=>[intR.row 3 (c.map (·.1)),intR.row 3 (c.map (·.2))])
  (fun _ rest c=>(.exit 0,[(5,intR.sl 0 (((own rest x).foldl insC c).map (·.1))),(6,intR.sl 1 (((own rest x).foldl insC c).map (·.2))),(7,undef)],[intR.row 3 (((own rest x).foldl insC c).map (·.1)),intR.row 3 (((own rest x).foldl insC c).map (·.2))])) (fun i c=>c.length≤i) (by omega) (Nat.le_refl _)]
 ·have hcl:((own l x).foldl insC []).length≤1000:=by
   rw [(insC_fold (own l x) [] .nil).2.length_eq,List.append_nil]
   have:=own_len l x;omega
  generalize (own l x).foldl insC []=c at hcl ⊢
  simp -implicitDefEqProofs [k50_4,prep_new,newK_nil s3]
  rw [LL_for (γ:=List (Int × Int)) c [] (fun i d=>[(9,intR.sl 2 (ends d)),(10,.int .i64 i)]) (fun _ d=>[intR.row 3 (c.map (·.1)),intR.row 3 (c.map (·.2)),intR.row 3 (ends d)])
   (fun _ rest d=>(.exit 4,[(9,intR.sl 2 (ends (rest.foldl gstep d))),(10,undef)],[intR.row 3 (c.map (·.1)),intR.row 3 (c.map (·.2)),intR.row 3 (ends (rest.foldl gstep d))])) (fun i d=>d.length≤i) (by omega) (Nat.le_refl _)]
  ·have rr:=int_reifyR (h:=[intR.row 3 (c.map (·.1)),intR.row 3 (c.map (·.2)),intR.row 3 (ends (c.foldl gstep []))]) (b:=2) (l:=ends (c.foldl gstep [])) rfl
   simp -implicitDefEqProofs [k50_18,rr]
  ·simp -implicitDefEqProofs [k50_18,ends,Rec.sl_nil]
  ·rfl
  ·intro nx i d hi _
   simp -implicitDefEqProofs [r50_18,k50_18,hi,Rec.sl_len,trim_le]
  ·intro nx i s rest d hi hv hd hw hdl ih
   have ih:=ih (gstep d s) (by have:=gstep_len d s;omega)
   simp -implicitDefEqProofs [k50_18] at ih
   rw [List.foldl_cons]
   have hi1:i<(c.map (·.1)).length:=by simpa using hi
   have hi2:i<(c.map (·.2)).length:=by simpa using hi
   have e1:(c.map (·.1))[i]=s.1:=by rw [List.getElem_map,hv]
   have e2:(c.map (·.2))[i]=s.2:=by rw [List.getElem_map,hv]
   have ix1:=int_index (g:=some false) (b:=0) (l:=c.map (·.1)) hi1
   have ix2:=int_index (g:=some false) (b:=1) (l:=c.map (·.2)) hi2
   have ld1:=int_load (h:=[intR.row 3 (c.map (·.1)),intR.row 3 (c.map (·.2)),intR.row 3 (ends d)]) (b:=0) (l:=c.map (·.1)) (sz:=some 1) rfl hi1
   have ld2:=int_load (h:=[intR.row 3 (c.map (·.1)),intR.row 3 (c.map (·.2)),intR.row 3 (ends d)]) (b:=1) (l:=c.map (·.2)) (sz:=some 1) rfl hi2
   rw [e1] at ld1
   rw [e2] at ld2
   have ap:=app_two' (h:=[intR.row 3 (c.map (·.1)),intR.row 3 (c.map (·.2)),intR.row 3 (ends d)]) (b:=2) (lo:=0) (c:=ends d) s.1 s.2 rfl (Nat.zero_le _) (by rw [Rg.ends_len];omega)
   rcases List.eq_nil_or_concat d with h0 | ⟨d',u,h0⟩
   ·subst h0
    have e:gstep [] s=[(s.1,s.2)]:=rfl
    have en:ends [(s.1,s.2)]=[s.1,s.2]:=rfl
    have e0:ends ([]:List (Int × Int))=[]:=rfl
    rw [e,en] at ih
    rw [e]
    rw [e0] at ap ld1 ld2
    simp -implicitDefEqProofs [r50_18,k50_18,hi,ix1,ix2,ld1,ld2,e0,Rec.sl_len,lit_two,ap,hw,trim_le]
    exact ih
   ·rw [List.concat_eq_append] at h0
    subst h0
    have hel:(ends (d'++[u])).length=2 * d'.length+2:=by rw [Rg.ends_len,List.length_append];show 2 * (d'.length+1)=_;omega
    have hn:2 * d'.length+1<(ends (d'++[u])).length:=by omega
    have wl:IntKind.i64.wrap (((ends (d'++[u])).length:Int)-1)=((2 * d'.length+1:Nat):Int):=by
     rw [hel];exact (wrap64 (by rw [List.length_append] at hdl;omega) (by rw [List.length_append] at hdl;omega)).trans (by omega)
    have hpos:(0:Int)<((ends (d'++[u])).length:Int):=by omega
    have hposN:0<(ends (d'++[u])).length:=by omega
    have ix3:=int_index (g:=some false) (b:=2) (l:=ends (d'++[u])) hn
    have ld3:=int_load (h:=[intR.row 3 (c.map (·.1)),intR.row 3 (c.map (·.2)),intR.row 3 (ends (d'++[u]))]) (b:=2) (l:=ends (d'++[u])) (sz:=some 1) rfl hn
    rw [ends_get hn] at ld3
    have st3:=int_store (h:=[intR.row 3 (c.map (·.1)),intR.row 3 (c.map (·.2)),intR.row 3 (ends (d'++[u]))]) (b:=2) (lo:=0) (l:=ends (d'++[u])) (max u.2 s.2) rfl (Nat.zero_le _) hn
    rw [ends_last] at st3
    generalize hpn:((2 * d'.length+1:Nat):Int)=pn at *
    rw [Rg.gstep_snoc] at ih ⊢
    by_cases hs:s.1≤u.2
    ·rw [if_pos hs] at ih ⊢
     have esl:intR.sl 2 (ends (d'++[(u.1,max u.2 s.2)]))=intR.sl 2 (ends (d'++[u])):=int_sl (by rw [Rg.ends_len,Rg.ends_len];simp)
     rw [esl] at ih
     simp -implicitDefEqProofs [r50_18,k50_18,hi,ix1,ix2,ld1,ld2,Rec.sl_len,hposN,wl,ix3,ld3,hs,max_int,st3,hw,trim_le]
     exact ih
    ·rw [if_neg hs] at ih ⊢
     have ea:d'++[u,s]=(d'++[u])++[s]:=by rw [List.append_assoc];rfl
     rw [ea,ends_snoc6 (d'++[u]) s] at ih
     rw [ea]
     simp -implicitDefEqProofs [r50_18,k50_18,hi,ix1,ix2,ld1,ld2,Rec.sl_len,hposN,wl,ix3,ld3,hs,lit_two,ap,hw,trim_le,-List.append_assoc]
     exact ih
 ·simp -implicitDefEqProofs [k50_4,Rec.sl_nil]
 ·rfl
 ·intro nx i c hi _
  simp -implicitDefEqProofs [r50_4,k50_4,hi,Rec.o_len hk,trim_le,own]
 ·intro nx i r rest c hi hv hd hw hc ih
  have ixi:=Rec.o_index (R:=rectR) (t:=39) (kk:=.i64) (s:=4) rfl hk hi
  rw [hv] at ixi
  rw [own_cons]
  by_cases h1:r.x0≤x
  case neg =>
   have h1':x<r.x0:=by omega
   have ih:=ih c (by omega)
   rw [if_neg (fun e=>h1 e.1),List.nil_append]
   simp -implicitDefEqProofs [k50_4] at ih
   simp -implicitDefEqProofs [r50_4,k50_4,hi,ixi,Rec.o_len hk,rect_val,h1',hw,trim_le]
   exact ih
  have h1':¬ (x<r.x0):=by omega
  by_cases h2:x<r.x1
  case neg =>
   have h2':r.x1≤x:=by omega
   have ih:=ih c (by omega)
   rw [if_neg (fun e=>h2 e.2),List.nil_append]
   simp -implicitDefEqProofs [k50_4] at ih
   simp -implicitDefEqProofs [r50_4,k50_4,hi,ixi,Rec.o_len hk,rect_val,h1',h2',hw,trim_le]
   exact ih
  have h2':¬ (r.x1≤x):=by omega
  rw [if_pos ⟨h1,h2⟩]
  have ih:=ih (insC c (r.y0,r.y1)) (by rw [insC_len];omega)
  simp -implicitDefEqProofs [k50_4] at ih
  have ap1:=app_num (h:=[intR.row 3 (c.map (·.1)),intR.row 3 (c.map (·.2))]) (b:=0) (lo:=0) (c:=c.map (·.1)) 0 rfl (Nat.le_refl _) (by simp;omega)
  have ap2:=app_num (h:=[intR.row 3 (c.map (·.1)++[0]),intR.row 3 (c.map (·.2))]) (b:=1) (lo:=0) (c:=c.map (·.2)) 0 rfl (Nat.zero_le _) (by simp;omega)
  have hf:(c.map (·.1)).length=c.length:=List.length_map _
  have ht:(c.map (·.2)).length=c.length:=List.length_map _
  have ec1:(insC c (r.y0,r.y1)).map (·.1)=putAt (c.map (·.1)) (scan (fun j=>decide (r.y0<(c.map (·.1)).getD j 0)) c.length) r.y0:=putAt_map _ _ _ _
  have ec2:(insC c (r.y0,r.y1)).map (·.2)=putAt (c.map (·.2)) (scan (fun j=>decide (r.y0<(c.map (·.1)).getD j 0)) c.length) r.y1:=putAt_map _ _ _ _
  rw [ec1,ec2] at ih
  rw [List.singleton_append,List.foldl_cons]
  generalize (own rest x).foldl insC (insC c (r.y0,r.y1))=C at ih ⊢
  clear ec1 ec2
  have hcl:c.length≤1000:=by omega
  generalize c.map (·.1)=f at *
  generalize c.map (·.2)=t at *
  generalize c.length=n at *
  have gd:∀ j (hj:j<f.length),f.getD j 0=f[j]:=fun j hj=>by rw [List.getD_eq_getElem?_getD,List.getElem?_eq_getElem hj];rfl
  have hsc:=scan_le (fun j=>decide (r.y0<f.getD j 0)) n
  have esf:∀ m,m≤n→intR.sl 0 (shiftRow f m)=intR.sl 0 (f++[0]):=fun m hm=>int_sl (by rw [shiftRow_len (by omega)];simp)
  have est:∀ m,m≤n→intR.sl 1 (shiftRow t m)=intR.sl 1 (t++[0]):=fun m hm=>int_sl (by rw [shiftRow_len (by omega)];simp)
  have ixf:=fun (m:Nat) (hm:m≤n) (j:Nat) (hj:j<n+1)=>(esf m hm) ▸ int_index (g:=some false) (b:=0) (l:=shiftRow f m) (i:=j) (by rw [shiftRow_len (by omega)];omega)
  have ixt:=fun (m:Nat) (hm:m≤n) (j:Nat) (hj:j<n+1)=>(est m hm) ▸ int_index (g:=some false) (b:=1) (l:=shiftRow t m) (i:=j) (by rw [shiftRow_len (by omega)];omega)
  have top1:shiftRow f n=f++[0]:=by rw [← hf];exact shiftRow_top f
  have top2:shiftRow t n=t++[0]:=by rw [← ht];exact shiftRow_top t
  simp -implicitDefEqProofs [r50_4,k50_4,hi,ixi,Rec.o_len hk,rect_val,h1',h2',Rec.sl_len,hf,lit_num,ap1,ap2]
  rw [LL_rec (α:=Nat) n (fun m=>[(8,.int .i64 (m:Int))]) (fun m=>[intR.row 3 (shiftRow f m),intR.row 3 (shiftRow t m)])
   (fun m=>(.exit 2,[(8,.int .i64 ((scan (fun j=>decide (r.y0<f.getD j 0)) m:Nat):Int))],[intR.row 3 (shiftRow f (scan (fun j=>decide (r.y0<f.getD j 0)) m)),intR.row 3 (shiftRow t (scan (fun j=>decide (r.y0<f.getD j 0)) m))])) (fun m=>m≤n) (fun m=>m)]
  ·generalize scan (fun j=>decide (r.y0<f.getD j 0)) n=k at hsc ih ⊢
   have sp1:intR.sl 0 (putAt f k r.y0)=intR.sl 0 (f++[0]):=int_sl (by rw [Rg.putAt_len];simp)
   have sp2:intR.sl 1 (putAt t k r.y1)=intR.sl 1 (t++[0]):=int_sl (by rw [Rg.putAt_len];simp)
   rw [sp1,sp2] at ih
   have ix1:=ixf k hsc k (by omega)
   have ix2:=ixt k hsc k (by omega)
   have st1:=int_store (h:=[intR.row 3 (shiftRow f k),intR.row 3 (shiftRow t k)]) (b:=0) (lo:=0) (l:=shiftRow f k) (i:=k) r.y0 rfl (Nat.le_refl _) (by rw [shiftRow_len (by omega)];omega)
   rw [shiftRow_set (by omega)] at st1
   have st2:=int_store (h:=[intR.row 3 (putAt f k r.y0),intR.row 3 (shiftRow t k)]) (b:=1) (lo:=0) (l:=shiftRow t k) (i:=k) r.y1 rfl (Nat.zero_le _) (by rw [shiftRow_len (by omega)];omega)
   rw [shiftRow_set (by omega)] at st2
   simp -implicitDefEqProofs [k50_10,ix1,ix2,ixi,rect_val,st1,st2,hw,trim_le]
   exact ih
  ·exact Nat.le_refl _
  ·simp -implicitDefEqProofs [k50_10]
  ·simp only [top1,top2]
  ·intro nx m hm ih
   cases m with
   | zero=>simp -implicitDefEqProofs [r50_10,k50_10,scan,trim_le]
   | succ m =>
    have hmf:m<f.length:=by omega
    have hmt:m<t.length:=by omega
    have w3:IntKind.i64.wrap ((m:Int)+1-1)=(m:Int):=(wrap64 (by omega) (by omega)).trans (by omega)
    have w4:IntKind.i64.wrap (m:Int)=(m:Int):=wrap64 (by omega) (by omega)
    have hpos:(0:Int)<(m:Int)+1:=by omega
    have e:scan (fun j=>decide (r.y0<f.getD j 0)) (m+1)=if decide (r.y0<f.getD m 0) then scan (fun j=>decide (r.y0<f.getD j 0)) m else m+1:=rfl
    rw [e,gd m hmf]
    have ixa:=ixf (m+1) (by omega) m (by omega)
    have ixb:=ixf (m+1) (by omega) (m+1) (by omega)
    have iya:=ixt (m+1) (by omega) m (by omega)
    have iyb:=ixt (m+1) (by omega) (m+1) (by omega)
    have lda:=int_load (h:=[intR.row 3 (shiftRow f (m+1)),intR.row 3 (shiftRow t (m+1))]) (b:=0) (l:=shiftRow f (m+1)) (i:=m) (sz:=some 1) rfl (by rw [shiftRow_len (by omega)];omega)
    rw [shiftRow_get (by omega) (by omega)] at lda
    have sta:=int_store (h:=[intR.row 3 (shiftRow f (m+1)),intR.row 3 (shiftRow t (m+1))]) (b:=0) (lo:=0) (l:=shiftRow f (m+1)) (i:=m+1) f[m] rfl (Nat.le_refl _) (by rw [shiftRow_len (by omega)];omega)
    rw [shiftRow_down (by omega)] at sta
    have ldb:=int_load (h:=[intR.row 3 (shiftRow f m),intR.row 3 (shiftRow t (m+1))]) (b:=1) (l:=shiftRow t (m+1)) (i:=m) (sz:=some 1) rfl (by rw [shiftRow_len (by omega)];omega)
    rw [shiftRow_get (by omega) (by omega)] at ldb
    have stb:=int_store (h:=[intR.row 3 (shiftRow f m),intR.row 3 (shiftRow t (m+1))]) (b:=1) (lo:=0) (l:=shiftRow t (m+1)) (i:=m+1) t[m] rfl (Nat.zero_le _) (by rw [shiftRow_len (by omega)];omega)
    rw [shiftRow_down (by omega)] at stb
    push_cast at ixb iyb
    have ih:=ih m (by omega) (by omega)
    simp -implicitDefEqProofs [k50_10] at ih
    by_cases hz:r.y0<f[m]
    ·simp -implicitDefEqProofs [r50_10,k50_10,hpos,w4,ixa,ixb,iya,iyb,lda,ldb,sta,stb,ixi,rect_val,hz,trim_le]
     exact ih
    ·simp -implicitDefEqProofs [r50_10,k50_10,hpos,w4,ixa,lda,ixi,rect_val,hz,trim_le]
open Rg (swp)
theorem min_int6 (a b:Int):aMinMax false [.int .i64 a,.int .i64 b]=some (.int .i64 (min a b)):=by
 show some (Value.int .i64 (if b<a then b else a))=_
 congr 2
 omega
def odd (i:Nat):Bool:=decide (((i % 2:Nat):Int)=1)
theorem odd_succ (i:Nat):odd (i+1) = !odd i:=by
 unfold odd
 by_cases h:i % 2=1
 ·have h':(i+1) % 2=0:=by omega
  rw [h,h'];rfl
 ·have h0:i % 2=0:=by omega
  have h':(i+1) % 2=1:=by omega
  rw [h0,h'];rfl
theorem swp_left (f:Bool→Bool→Bool) {a b:List Int} {i k:Nat} (hi:i<a.length) (hk:b.length≤k∨∃ h:k<b.length,a[i]<b[k]) (w:Bool) :
  swp f (a.drop i) (b.drop k) (odd i) (odd k) w=(if f (odd (i+1)) (odd k)=w then [] else [a[i]])++swp f (a.drop (i+1)) (b.drop k) (odd (i+1)) (odd k) (f (odd (i+1)) (odd k)):=by
 rw [List.drop_eq_getElem_cons hi,odd_succ]
 rcases hk with hk | ⟨hk,hlt⟩
 ·rw [List.drop_of_length_le hk,swp]
 ·rw [List.drop_eq_getElem_cons hk,swp,if_pos hlt]
theorem swp_right (f:Bool→Bool→Bool) {a b:List Int} {i k:Nat} (hk:k<b.length) (hi:a.length≤i∨∃ h:i<a.length,b[k]<a[i]) (w:Bool) :
  swp f (a.drop i) (b.drop k) (odd i) (odd k) w=(if f (odd i) (odd (k+1))=w then [] else [b[k]])++swp f (a.drop i) (b.drop (k+1)) (odd i) (odd (k+1)) (f (odd i) (odd (k+1))):=by
 rw [List.drop_eq_getElem_cons hk,odd_succ]
 rcases hi with hi | ⟨hi,hlt⟩
 ·rw [List.drop_of_length_le hi,swp]
 ·rw [List.drop_eq_getElem_cons hi,swp,if_neg (by omega),if_pos hlt]
theorem swp_both (f:Bool→Bool→Bool) {a b:List Int} {i k:Nat} (hi:i<a.length) (hk:k<b.length) (he:a[i]=b[k]) (w:Bool) :
  swp f (a.drop i) (b.drop k) (odd i) (odd k) w=(if f (odd (i+1)) (odd (k+1))=w then [] else [a[i]])++swp f (a.drop (i+1)) (b.drop (k+1)) (odd (i+1)) (odd (k+1)) (f (odd (i+1)) (odd (k+1))):=by
 rw [List.drop_eq_getElem_cons hi,List.drop_eq_getElem_cons hk,odd_succ,odd_succ,swp,if_neg (by omega),if_neg (by omega)]
set_option maxHeartbeats 4000000 in
theorem rcombine_spec (a b:List Int) (z:Int) (f:Bool→Bool→Bool) (hz:(z=0∧f=orF)∨(z=1∧f=andF)∨(z=2∧f=subF)) (ha:a.length≤100000) (hb:b.length≤100000) :
  pureCall E.P (L E) 49 [iT a,iT b,.int .i64 z]=some (iT (swp f a b false false false)):=by
 have ub:E.P.underlying 4=some .bool:=by kernel_rfl
 have bne:∀ p q,aBin E.P .neq 4 (.bool p) (.bool q)=some (.bool (!(p == q))):=fun p q=>bin_neq_bool ub
 rw [pureCall_fn F49 rfl]
 simp -implicitDefEqProofs [r49,p49,prep_new,newK_nil s3]
 rw [LL_rec (α:=Nat × Nat × Bool × List Int) (0,0,false,[]) (fun s=>[(7,intR.sl 0 s.2.2.2),(8,.int .i64 (s.1:Int)),(9,.int .i64 (s.2.1:Int)),(10,.bool s.2.2.1)]) (fun s=>[intR.row 3 s.2.2.2])
  (fun s=>(.exit 0,[(7,intR.sl 0 (s.2.2.2++swp f (a.drop s.1) (b.drop s.2.1) (odd s.1) (odd s.2.1) s.2.2.1)),(8,undef),(9,undef),(10,undef)],[intR.row 3 (s.2.2.2++swp f (a.drop s.1) (b.drop s.2.1) (odd s.1) (odd s.2.1) s.2.2.1)]))
  (fun s=>s.1≤a.length∧s.2.1≤b.length∧s.2.2.2.length≤s.1+s.2.1) (fun s=>(a.length-s.1)+(b.length-s.2.1))]
 ·have rr:=int_reifyR (h:=[intR.row 3 (swp f a b false false false)]) (b:=0) (l:=swp f a b false false false) rfl
  have o0:odd 0=false:=rfl
  simp -implicitDefEqProofs [k49_5,o0,rr]
 ·exact ⟨Nat.zero_le _,Nat.zero_le _,Nat.zero_le _⟩
 ·simp -implicitDefEqProofs [k49_5,Rec.sl_nil]
 ·rfl
 ·intro nx s hI ih
  obtain ⟨i,k,w,out⟩:=s
  obtain ⟨h1,h2,h3⟩:=hI
  simp only at h1 h2 h3 ih ⊢
  have wi:IntKind.i64.wrap ((i:Int)+1)=((i+1:Nat):Int):=wrap64 (by omega) (by omega)
  have wk:IntKind.i64.wrap ((k:Int)+1)=((k+1:Nat):Int):=wrap64 (by omega) (by omega)
  have rem2:∀ m:Nat,aBin E.P .rem 3 (.int .i64 (m:Int)) (.int .i64 2)=some (.int .i64 ((m % 2:Nat):Int)):=fun m=>rem_nat (m:=m) (n:=2) (by omega)
  have ap:=fun (y:Int)=>app_num (h:=[intR.row 3 out]) (b:=0) (lo:=0) (c:=out) y rfl (Nat.le_refl _) (by omega)
  have wl:0<b.length→IntKind.i64.wrap ((b.length:Int)-1)=((b.length-1:Nat):Int):=fun h=>(wrap64 (by omega) (by omega)).trans (by omega)
  by_cases hi:i<a.length
  ·have hii:(i:Int)<(a.length:Int):=by omega
   have ixi:=iT_index hi
   by_cases hk:k<b.length
   ·have hkk:(k:Int)<(b.length:Int):=by omega
    have ixk:=iT_index hk
    have hkn:¬ ((b.length:Int)≤(k:Int)):=by omega
    have mn:min (k:Int) ((b.length-1:Nat):Int)=(k:Int):=by omega
    have wl:=wl (by omega)
    rcases Int.lt_trichotomy a[i] b[k] with hab | hab | hab
    ·skip
     rw [swp_left f hi (.inr ⟨hk,hab⟩) w]
     have ih:=fun out' (hl:out'.length≤out.length+1)=>ih (i+1,k,f (odd (i+1)) (odd (k)),out') (by simp only;omega) (by simp only;omega)
     simp only at ih
     have ri:=rem2 (i+1)
     have rk:=rem2 (k)
     have oi:decide ((((i+1) % 2:Nat):Int)=1)=odd (i+1):=rfl
     have ok:decide ((((k) % 2:Nat):Int)=1)=odd (k):=rfl
     generalize ((((i+1) % 2:Nat)):Int)=mi at ri oi
     generalize ((((k) % 2:Nat)):Int)=mk at rk ok
     generalize odd (i+1)=p at *
     generalize odd (k)=q at *
     have hle:a[i]≤b[k]:=by omega
     have hne:¬ (b[k]=a[i]):=by omega
     simp -implicitDefEqProofs [k49_5,-List.append_assoc,-Int.natCast_add] at ih
     rw [← List.append_assoc]
     rcases hz with ⟨rfl,rfl⟩ | ⟨rfl,rfl⟩ | ⟨rfl,rfl⟩
     ·cases p <;> cases q <;> cases w <;>
       simp -implicitDefEqProofs [r49_5,k49_5,orF,iT_len,hii,hkk,hkn,wl,mn,min_int6,ixi,ixk,hle,hne,wi,ri,rk,oi,ok,bne,lit_num,ap,trim_le,-Int.natCast_add,-List.append_assoc] <;>
       first
       | exact ih out (Nat.le_succ _)
       | exact ih (out++[a[i]]) (by simp)
     ·cases p <;> cases q <;> cases w <;>
       simp -implicitDefEqProofs [r49_5,k49_5,andF,iT_len,hii,hkk,hkn,wl,mn,min_int6,ixi,ixk,hle,hne,wi,ri,rk,oi,ok,bne,lit_num,ap,trim_le,-Int.natCast_add,-List.append_assoc] <;>
       first
       | exact ih out (Nat.le_succ _)
       | exact ih (out++[a[i]]) (by simp)
     ·cases p <;> cases q <;> cases w <;>
       simp -implicitDefEqProofs [r49_5,k49_5,subF,iT_len,hii,hkk,hkn,wl,mn,min_int6,ixi,ixk,hle,hne,wi,ri,rk,oi,ok,bne,lit_num,ap,trim_le,-Int.natCast_add,-List.append_assoc] <;>
       first
       | exact ih out (Nat.le_succ _)
       | exact ih (out++[a[i]]) (by simp)
    ·skip
     rw [swp_both f hi hk hab w]
     have ih:=fun out' (hl:out'.length≤out.length+1)=>ih (i+1,k+1,f (odd (i+1)) (odd (k+1)),out') (by simp only;omega) (by simp only;omega)
     simp only at ih
     have ri:=rem2 (i+1)
     have rk:=rem2 (k+1)
     have oi:decide ((((i+1) % 2:Nat):Int)=1)=odd (i+1):=rfl
     have ok:decide ((((k+1) % 2:Nat):Int)=1)=odd (k+1):=rfl
     generalize ((((i+1) % 2:Nat)):Int)=mi at ri oi
     generalize ((((k+1) % 2:Nat)):Int)=mk at rk ok
     generalize odd (i+1)=p at *
     generalize odd (k+1)=q at *
     have hle:b[k]≤b[k]:=Int.le_refl _
     rw [hab] at ixi ⊢
     simp -implicitDefEqProofs [k49_5,-List.append_assoc,-Int.natCast_add] at ih
     rw [← List.append_assoc]
     rcases hz with ⟨rfl,rfl⟩ | ⟨rfl,rfl⟩ | ⟨rfl,rfl⟩
     ·cases p <;> cases q <;> cases w <;>
       simp -implicitDefEqProofs [r49_5,k49_5,orF,iT_len,hii,hkk,hkn,wl,mn,min_int6,ixi,ixk,wi,wk,ri,rk,oi,ok,bne,lit_num,ap,trim_le,-Int.natCast_add,-List.append_assoc] <;>
       first
       | exact ih out (Nat.le_succ _)
       | exact ih (out++[b[k]]) (by simp)
     ·cases p <;> cases q <;> cases w <;>
       simp -implicitDefEqProofs [r49_5,k49_5,andF,iT_len,hii,hkk,hkn,wl,mn,min_int6,ixi,ixk,wi,wk,ri,rk,oi,ok,bne,lit_num,ap,trim_le,-Int.natCast_add,-List.append_assoc] <;>
       first
       | exact ih out (Nat.le_succ _)
       | exact ih (out++[b[k]]) (by simp)
     ·cases p <;> cases q <;> cases w <;>
       simp -implicitDefEqProofs [r49_5,k49_5,subF,iT_len,hii,hkk,hkn,wl,mn,min_int6,ixi,ixk,wi,wk,ri,rk,oi,ok,bne,lit_num,ap,trim_le,-Int.natCast_add,-List.append_assoc] <;>
       first
       | exact ih out (Nat.le_succ _)
       | exact ih (out++[b[k]]) (by simp)
    ·skip
     rw [swp_right f hk (.inr ⟨hi,hab⟩) w]
     have ih:=fun out' (hl:out'.length≤out.length+1)=>ih (i,k+1,f (odd (i)) (odd (k+1)),out') (by simp only;omega) (by simp only;omega)
     simp only at ih
     have ri:=rem2 (i)
     have rk:=rem2 (k+1)
     have oi:decide ((((i) % 2:Nat):Int)=1)=odd (i):=rfl
     have ok:decide ((((k+1) % 2:Nat):Int)=1)=odd (k+1):=rfl
     generalize ((((i) % 2:Nat)):Int)=mi at ri oi
     generalize ((((k+1) % 2:Nat)):Int)=mk at rk ok
     generalize odd (i)=p at *
     generalize odd (k+1)=q at *
     have hle:¬ (a[i]≤b[k]):=by omega
     have hne:¬ (a[i]=b[k]):=by omega
     simp -implicitDefEqProofs [k49_5,-List.append_assoc,-Int.natCast_add] at ih
     rw [← List.append_assoc]
     rcases hz with ⟨rfl,rfl⟩ | ⟨rfl,rfl⟩ | ⟨rfl,rfl⟩
     ·cases p <;> cases q <;> cases w <;>
       simp -implicitDefEqProofs [r49_5,k49_5,orF,iT_len,hii,hkk,hkn,wl,mn,min_int6,ixi,ixk,hle,hne,wk,ri,rk,oi,ok,bne,lit_num,ap,trim_le,-Int.natCast_add,-List.append_assoc] <;>
       first
       | exact ih out (Nat.le_succ _)
       | exact ih (out++[b[k]]) (by simp)
     ·cases p <;> cases q <;> cases w <;>
       simp -implicitDefEqProofs [r49_5,k49_5,andF,iT_len,hii,hkk,hkn,wl,mn,min_int6,ixi,ixk,hle,hne,wk,ri,rk,oi,ok,bne,lit_num,ap,trim_le,-Int.natCast_add,-List.append_assoc] <;>
       first
       | exact ih out (Nat.le_succ _)
       | exact ih (out++[b[k]]) (by simp)
     ·cases p <;> cases q <;> cases w <;>
       simp -implicitDefEqProofs [r49_5,k49_5,subF,iT_len,hii,hkk,hkn,wl,mn,min_int6,ixi,ixk,hle,hne,wk,ri,rk,oi,ok,bne,lit_num,ap,trim_le,-Int.natCast_add,-List.append_assoc] <;>
       first
       | exact ih out (Nat.le_succ _)
       | exact ih (out++[b[k]]) (by simp)
   ·have hkn:(b.length:Int)≤(k:Int):=by omega
    have hkn':b.length≤k:=by omega
    ·skip
     rw [swp_left f hi (.inl hkn') w]
     have ih:=fun out' (hl:out'.length≤out.length+1)=>ih (i+1,k,f (odd (i+1)) (odd (k)),out') (by simp only;omega) (by simp only;omega)
     simp only at ih
     have ri:=rem2 (i+1)
     have rk:=rem2 (k)
     have oi:decide ((((i+1) % 2:Nat):Int)=1)=odd (i+1):=rfl
     have ok:decide ((((k) % 2:Nat):Int)=1)=odd (k):=rfl
     generalize ((((i+1) % 2:Nat)):Int)=mi at ri oi
     generalize ((((k) % 2:Nat)):Int)=mk at rk ok
     generalize odd (i+1)=p at *
     generalize odd (k)=q at *
     have hkk:¬ ((k:Int)<(b.length:Int)):=by omega
     simp -implicitDefEqProofs [k49_5,-List.append_assoc,-Int.natCast_add] at ih
     rw [← List.append_assoc]
     rcases hz with ⟨rfl,rfl⟩ | ⟨rfl,rfl⟩ | ⟨rfl,rfl⟩
     ·cases p <;> cases q <;> cases w <;>
       simp -implicitDefEqProofs [r49_5,k49_5,orF,iT_len,hii,hkk,hkn,ixi,wi,ri,rk,oi,ok,bne,lit_num,ap,trim_le,-Int.natCast_add,-List.append_assoc] <;>
       first
       | exact ih out (Nat.le_succ _)
       | exact ih (out++[a[i]]) (by simp)
     ·cases p <;> cases q <;> cases w <;>
       simp -implicitDefEqProofs [r49_5,k49_5,andF,iT_len,hii,hkk,hkn,ixi,wi,ri,rk,oi,ok,bne,lit_num,ap,trim_le,-Int.natCast_add,-List.append_assoc] <;>
       first
       | exact ih out (Nat.le_succ _)
       | exact ih (out++[a[i]]) (by simp)
     ·cases p <;> cases q <;> cases w <;>
       simp -implicitDefEqProofs [r49_5,k49_5,subF,iT_len,hii,hkk,hkn,ixi,wi,ri,rk,oi,ok,bne,lit_num,ap,trim_le,-Int.natCast_add,-List.append_assoc] <;>
       first
       | exact ih out (Nat.le_succ _)
       | exact ih (out++[a[i]]) (by simp)
  ·have hii:¬ ((i:Int)<(a.length:Int)):=by omega
   by_cases hk:k<b.length
   ·have hkk:(k:Int)<(b.length:Int):=by omega
    have ixk:=iT_index hk
    ·skip
     rw [swp_right f hk (.inl (by omega)) w]
     have ih:=fun out' (hl:out'.length≤out.length+1)=>ih (i,k+1,f (odd (i)) (odd (k+1)),out') (by simp only;omega) (by simp only;omega)
     simp only at ih
     have ri:=rem2 (i)
     have rk:=rem2 (k+1)
     have oi:decide ((((i) % 2:Nat):Int)=1)=odd (i):=rfl
     have ok:decide ((((k+1) % 2:Nat):Int)=1)=odd (k+1):=rfl
     generalize ((((i) % 2:Nat)):Int)=mi at ri oi
     generalize ((((k+1) % 2:Nat)):Int)=mk at rk ok
     generalize odd (i)=p at *
     generalize odd (k+1)=q at *
     skip
     simp -implicitDefEqProofs [k49_5,-List.append_assoc,-Int.natCast_add] at ih
     rw [← List.append_assoc]
     rcases hz with ⟨rfl,rfl⟩ | ⟨rfl,rfl⟩ | ⟨rfl,rfl⟩
     ·cases p <;> cases q <;> cases w <;>
       simp -implicitDefEqProofs [r49_5,k49_5,orF,iT_len,hii,hkk,ixk,wk,ri,rk,oi,ok,bne,lit_num,ap,trim_le,-Int.natCast_add,-List.append_assoc] <;>
       first
       | exact ih out (Nat.le_succ _)
       | exact ih (out++[b[k]]) (by simp)
     ·cases p <;> cases q <;> cases w <;>
       simp -implicitDefEqProofs [r49_5,k49_5,andF,iT_len,hii,hkk,ixk,wk,ri,rk,oi,ok,bne,lit_num,ap,trim_le,-Int.natCast_add,-List.append_assoc] <;>
       first
       | exact ih out (Nat.le_succ _)
       | exact ih (out++[b[k]]) (by simp)
     ·cases p <;> cases q <;> cases w <;>
       simp -implicitDefEqProofs [r49_5,k49_5,subF,iT_len,hii,hkk,ixk,wk,ri,rk,oi,ok,bne,lit_num,ap,trim_le,-Int.natCast_add,-List.append_assoc] <;>
       first
       | exact ih out (Nat.le_succ _)
       | exact ih (out++[b[k]]) (by simp)
   ·have e1:a.drop i=[]:=List.drop_of_length_le (by omega)
    have e2:b.drop k=[]:=List.drop_of_length_le (by omega)
    rw [e1,e2]
    simp -implicitDefEqProofs [r49_5,k49_5,iT_len,hi,hk,swp,trim_le]
end Go.Proofs.YtnhdabelepjgbaaGreat.Bm
