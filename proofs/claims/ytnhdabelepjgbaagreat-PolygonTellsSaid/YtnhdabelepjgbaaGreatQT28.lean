/-
 The boundary of a region, cut at more places: a net too. Conditions: none. No program in sight.
-/
import Derived.Test.YtnhdabelepjgbaaGreatQT27
import Derived.Test.YtnhdabelepjgbaaGreatQT16
import Derived.Test.YtnhdabelepjgbaaGreatQT26
namespace Go.Proofs.YtnhdabelepjgbaaGreat.Bm
open Go Go.RowKit
open Rg (Rect Pt turnI gtS fromI pickI nxI cornF trc freeN waysF waysL loopsL rotM minP bdL Net)
def encP (p:Pt):Value:=.agg ⟨[.int .i64 p.1,.int .i64 p.2]⟩
theorem p_ok (k:Pt):keyOk E.P 4 42 (encP k)=true:=by kernel_rfl
theorem p_eq0 (a b:Pt):aKeyEq E.P 42 (encP a) (encP b)=allOf [some (a.1 == b.1),some (a.2 == b.2)]:=by kernel_rfl
theorem keyP:KeyEnc E.P 42 encP where
 flat k:=by simp [encP,flat,atom]
 ok:=p_ok
 eq a b:=by
  rw [p_eq0,allOf_two]
  obtain ⟨a1,a2⟩:=a
  obtain ⟨b1,b2⟩:=b
  by_cases h1:a1=b1 <;> by_cases h2:a2=b2 <;> simp [h1,h2]
 bits a:=by
  obtain ⟨a1,a2⟩:=a
  show Instr.sameBits 10000 (.agg ⟨[.int .i64 a1,.int .i64 a2]⟩) (.agg ⟨[.int .i64 a1,.int .i64 a2]⟩)=true
  simp [Instr.sameBits]
theorem obj_sub7 {h:Heap} {b j n:Nat} {t:TypeId} {c:List Value} (hob:h[b]?=some (.cells t c 0)) (hn:j+n≤c.length):loadT ⟨some true,some n⟩ h (cAt b j)=some (.agg ⟨(c.drop j).take n⟩):=by
 unfold cAt
 rw [load_agg,obj_row hob,Option.bind_some]
 show (if j+n≤c.length then some (Value.agg ((c.drop j).take n).toArray) else none)=_
 rw [if_pos hn]
def elI:El:=⟨3,1,8,.int .i64 0,⟨some false,some 1⟩⟩
def frI (l:List (Pt × Pt)) (n:Nat) (p:Pt):List Int:=((List.range n).filter fun i=>decide ((gtS l i).1=p)).map fun (i:Nat)=>(i:Int)
theorem fr_all (l:List (Pt × Pt)) (p:Pt):frI l l.length p=(fromI l p).map fun (i:Nat)=>(i:Int):=rfl
theorem fr_snoc {l:List (Pt × Pt)} {i:Nat} (hi:i<l.length) (p:Pt):upd (fun p=>frI l i p) l[i].1 (frI l i l[i].1++[(i:Int)]) p=frI l (i+1) p:=by
 unfold upd frI
 rw [List.range_succ,List.filter_append,List.map_append]
 by_cases q:l[i].1=p
 ·rw [if_pos q,q];simp [Rg.gt_get hi,q]
 ·rw [if_neg q];simp [Rg.gt_get hi,q]
theorem fr_len (l:List (Pt × Pt)) (i:Nat) (p:Pt):(frI l i p).length≤i:=by
 unfold frI
 rw [List.length_map]
 have h:=List.length_filter_le (fun i=>decide ((gtS l i).1=p)) (List.range i)
 rw [List.length_range] at h
 exact h
def ptsE:Enc (List Pt):=⟨fun p=>lst false (spanR.vals p),fun _=>rfl,fun _ _=>rfl,fun _ _ _=>rfl,fun _ _=>rfl⟩
def elPts:El:=⟨22,1,24,.slice none 0 0,⟨some false,some 1⟩⟩
theorem lit_pts1 (h:Heap) (x:Bool) (p:List Value):buildSliceT (some ⟨22,1,24,.slice none 0 0,⟨some false,some 1⟩⟩) false h 1 #[(0,lst x p)]=some (lst true [lst x p],h) :=
 (build_lit' (n:=1) (l:=[(0,_)]) rfl rfl (by decide) (by decide) (by decide)).trans rfl
theorem lit_pts2 (h:Heap) (x y:Bool) (p q:List Value):buildSliceT (some ⟨22,1,24,.slice none 0 0,⟨some false,some 1⟩⟩) false h 2 #[(0,lst x p),(1,lst y q)]=some (lst true [lst x p,lst y q],h) :=
 (build_lit' (n:=2) (l:=[(0,_),(1,_)]) rfl rfl (by decide) (by decide) (by decide)).trans rfl
theorem lit_pt (h:Heap) (a b:Int):buildSliceT (some ⟨42,2,16,.agg ⟨[.int .i64 0,.int .i64 0]⟩,⟨some true,some 2⟩⟩) false h 1 #[(0,.agg ⟨[.int .i64 a,.int .i64 b]⟩)]=some (lst true [.agg ⟨[.int .i64 a,.int .i64 b]⟩],h) :=
 (build_lit' (n:=1) (l:=[(0,.agg ⟨[.int .i64 a,.int .i64 b]⟩)]) rfl rfl (by decide) (by decide) (by decide)).trans rfl
theorem app_pt {h:Heap} {b lo:Nat} {c:List Pt} (s:Pt) (hob:h[b]?=some (spanR.row 42 c)) (hlo:lo≤b) (hc:c.length≤1000000) :
  appendT (some ⟨42,2,16,.agg ⟨[.int .i64 0,.int .i64 0]⟩,⟨some true,some 2⟩⟩) h lo false (spanR.sl b c) (lst true [.agg ⟨[.int .i64 s.1,.int .i64 s.2]⟩])=some (spanR.sl b (c++[s]),h.set b (spanR.row 42 (c++[s]))) :=
 Rec.app (R:=spanR) (m:=[s]) rfl hob (Rec.cells_tree (R:=spanR) rfl [s]) hlo (by show (c.length+1) * 16≤2 ^ 47;omega)
theorem pts_set {x y:Bool} {p q:List Pt}:settled depth (lst true [lst x (spanR.vals p),lst y (spanR.vals q)])=true:=rfl
theorem zP:szOf E.P 42=some 2:=by kernel_rfl
theorem aPt7:aggT E.P 42=some true:=by kernel_rfl
theorem zPs:szOf E.P 22=some 1:=by kernel_rfl
theorem aPs:aggT E.P 22=some false:=by kernel_rfl
theorem rot_spec (h:Heap) (P:List Pt) (hP:P≠[]) (hl:P.length≤500000) :
  ∃ (m:Pt) (k:Nat),pureCall E.P (L E) 37 [lst false (spanR.vals P),.func (.func 25) ⟨[]⟩ ⟨[]⟩]=some (.agg ⟨[.int .i64 m.1,.int .i64 m.2]⟩) ∧
   pureCall E.P (L E) 36 [lst false (spanR.vals P),.agg ⟨[.int .i64 m.1,.int .i64 m.2]⟩]=some (.int .i64 ((k:Nat):Int)) ∧
   ∃ x y,sliceT (.sl 42 ⟨some true,some 2⟩) h (lst false (spanR.vals P)) (some (.int .i64 ((k:Nat):Int))) none none=some (lst x (spanR.vals (P.drop k))) ∧
    sliceT (.sl 42 ⟨some true,some 2⟩) h (lst false (spanR.vals P)) none (some (.int .i64 ((k:Nat):Int))) none=some (lst y (spanR.vals (P.take k))) ∧
    pureCall E.P (L E) 38 [lst true [lst x (spanR.vals (P.drop k)),lst y (spanR.vals (P.take k))]]=some (lst false (spanR.vals (rotM P))):=by
 cases P with
 | nil=>exact absurd rfl hP
 | cons a l =>
  have ll:(a :: l).length=l.length+1:=rfl
  have hm:minP a l∈a :: l:=by
   rcases (Rg.minP_told l a).1 with e | e
   ·rw [e];exact List.mem_cons_self ..
   ·exact List.mem_cons_of_mem _ e
  have hk:(a :: l).idxOf (minP a l)<(a :: l).length:=List.idxOf_lt_length_iff.2 hm
  have e:rotM (a :: l)=(a :: l).drop ((a :: l).idxOf (minP a l))++(a :: l).take ((a :: l).idxOf (minP a l)):=rfl
  refine ⟨minP a l,(a :: l).idxOf (minP a l),min_spec false a l (by omega),indexP_spec false (a :: l) (minP a l) (by omega) hm,false,(false && (a :: l).idxOf (minP a l) == (spanR.vals (a :: l)).length),?_,?_,?_⟩
  ·rw [slice_drop (s:=2) (Rec.vals_all (R:=spanR) _) rfl (by rw [Rec.vals_len];omega)]
   unfold Rec.vals;rw [List.map_drop]
  ·rw [slice_take (s:=2) (Rec.vals_all (R:=spanR) _) (by rw [Rec.vals_len];omega)]
   unfold Rec.vals;rw [List.map_take]
  ·have pc:=points_concat true [(some false,(a :: l).drop ((a :: l).idxOf (minP a l))),(some (false && (a :: l).idxOf (minP a l) == (spanR.vals (a :: l)).length),(a :: l).take ((a :: l).idxOf (minP a l)))] (by
    intro p hp
    rcases List.mem_cons.1 hp with e | e
    ·subst e;exact Rec.ok_some
    ·rw [List.mem_singleton] at e;subst e;exact Rec.ok_some) (by show 2≤1000;decide) (by
    show (List.drop _ _).length+((List.take _ _).length+0)≤1000000
    rw [List.length_drop,List.length_take];omega)
   have ht:tot [(some false,(a :: l).drop ((a :: l).idxOf (minP a l))),(some (false && (a :: l).idxOf (minP a l) == (spanR.vals (a :: l)).length),(a :: l).take ((a :: l).idxOf (minP a l)))]≠0:=by
    show (List.drop _ _).length+((List.take _ _).length+0)≠0
    rw [List.length_drop];omega
   rw [if_neg ht] at pc
   have ea:allP [((some false:Option Bool),(a :: l).drop ((a :: l).idxOf (minP a l))),(some (false && (a :: l).idxOf (minP a l) == (spanR.vals (a :: l)).length),(a :: l).take ((a :: l).idxOf (minP a l)))]=rotM (a :: l):=by
    rw [e]
    show _++(_++[])=_
    rw [List.append_nil]
   rw [ea] at pc
   exact pc
def rowB (d:List Bool):AObj:=.cells 4 (d.map .bool) 0
theorem key_pts (p:List Pt):keyD (ptsE.e p)=p.headD (0,0):=by cases p <;> rfl
theorem key_some {p:List Pt} (h:p≠[]):(keyT (ptsE.e p)).isSome=true:=by
 cases p with
 | nil=>exact absurd rfl h
 | cons a l=>rfl
def leP (p q:List Pt):Bool:=leV (ptsE.e p) (ptsE.e q)
def outL (l:List (Pt × Pt)):List (List Pt):=(loopsL l).mergeSort leP
theorem sort_pts {l:List (Pt × Pt)} (hl:Net l):sortPF (ptsE.vals (loopsL l))=some (ptsE.vals (outL l)):=by
 have h1:okK (ptsE.vals (loopsL l))=true:=by
  unfold okK
  rw [Bool.and_eq_true,List.all_eq_true,decide_eq_true_eq]
  refine ⟨fun v hv=>?_,?_⟩
  ·obtain ⟨p,hp,rfl⟩:=List.mem_map.1 hv
   obtain ⟨m,r,e,_⟩:=(Rg.loops_ok hl p hp).least
   exact key_some (by rw [e];simp)
  ·have e:(ptsE.vals (loopsL l)).map keyD=(loopsL l).map fun p=>p.headD (0,0):=by
    unfold Enc.vals
    rw [List.map_map]
    exact List.map_congr_left fun p _=>key_pts p
   rw [e];exact Rg.loops_heads hl
 unfold sortPF
 rw [if_pos h1]
 congr 1
 exact (List.map_mergeSort (r:=leP) (s:=leV) (f:=ptsE.e) (l:=loopsL l) fun a _ b _=>rfl).symm
theorem sortP_spec {h:Heap} {b lo:Nat} {l:List (Pt × Pt)} (hl:Net l) (hob:h[b]?=some (ptsE.row 22 (loopsL l))) (hlo:lo≤b) (hn:(loopsL l).length≤1000000) :
  L E 39 [Enc.sl b (loopsL l),.func (.func 40) ⟨[]⟩ ⟨[]⟩] h lo=some (.tuple #[],h.set b (ptsE.row 22 (outL l))):=by
 rw [L_orc (g:=inC 40 1 sortPF) rfl]
 unfold inC Enc.sl
 simp only
 rw [if_pos ⟨trivial,Nat.le_refl _⟩]
 have hso:=sort_pts hl
 by_cases h0:(loopsL l).length=0
 ·rw [if_pos h0]
  have e0:loopsL l=[]:=List.eq_nil_of_length_eq_zero h0
  have e:outL l=loopsL l:=by unfold outL;rw [e0,List.mergeSort_nil]
  rw [e,set_same hob]
 ·rw [if_neg h0]
  have hob':h[b]?=some (.cells 22 (ptsE.vals (loopsL l)) 1):=hob
  have hl2:(ptsE.vals (loopsL l)).length=(loopsL l).length:=Enc.vals_len
  unfold inCR
  simp only [hob']
  rw [List.take_of_length_le (by omega),hso,Option.bind_some,if_pos ⟨hlo,by unfold stampOk;rw [hl2];simp,trivial,by omega,by omega⟩]
  rw [List.drop_of_length_le (by omega),List.append_nil];rfl
theorem outline_bad (k:Option Bool) (a:List Rect) (hk:Rec.Ok k a) (ha:a.length≤1000000) (hr:regB a=false):pureCall E.P (L E) 14 [rectR.o k a]=some (.slice none 0 0):=by
 have hR:=right2_spec k a hk ha
 rw [hr] at hR
 have rf:∀ h,reify E.P 8 h (rectR.o k a)=some (rectR.o k a):=fun _=>Rec.o_reify
 rw [pureCall_fn F14 rfl]
 simp -implicitDefEqProofs [r14,p14,ret0 m33,rf,hR]
theorem outline_walk (k:Option Bool) (a:List Rect) (hk:Rec.Ok k a) (ha:a.length≤200) (hr:regB a=true) (hnet:Net (bdL a)) (hlen:(bdL a).length≤400000) (hnear:∀ s∈bdL a,nearS s):pureCall E.P (L E) 14 [rectR.o k a]=some (lst false (ptsE.vals (outL (bdL a)))):=by
 have hR:=right2_spec k a hk (by omega)
 have hB:=boundary_one k a hk ha
 rw [hr] at hR
 have rf:∀ h,reify E.P 8 h (rectR.o k a)=some (rectR.o k a):=fun _=>Rec.o_reify
 have st:settled depth (rectR.o k a)=true:=Rec.o_set
 have bA:∀ d n,below (d+1) n (rectR.o k a)=true:=fun d n=>Rec.o_bel
 have lS:∀ h,lenT .sl h (lst false (sideR.vals (bdL a)))=some (.int .i64 (bdL a).length):=fun h=>Rec.tree_len
 have ix:∀ (i:Nat) (hi:i<(bdL a).length),indexAddrT (.sl 48 ⟨some true,some 4⟩) (lst false (sideR.vals (bdL a))) (.int .i64 (i:Int))=some (cptr (sideR.val (bdL a)[i])):=fun i hi=>Rec.index_tree rfl hi
 have bS:∀ d n,below (d+1) n (lst false (sideR.vals (bdL a)))=true:=fun d n=>rfl
 rw [pureCall_fn F14 rfl]
 generalize rectR.o k a=VA at *
 generalize lst false (sideR.vals (bdL a))=VS at *
 generalize bdL a=l at *
 simp -implicitDefEqProofs [r14,p14,ret0 m33,rf,hR,ret1 m34,st,hB,lS]
 generalize hX:LL _ _ _ _=X
 obtain ⟨u,g,rfl,g0,gM⟩:=LL_uxk hX (α:=Nat × List (Pt × Value) × (Pt→Nat) × Heap) (U:=List (Pt × Value) × (Pt→Nat)) (0,[],fun _=>0,[mapB encP []]) (fun c=>[(24,.int .i64 (c.1:Int))]) (fun c=>c.2.2.2) (.exit 0) (fun _=>[(24,undef)])
   (fun u g=>g[0]?=some (mapB encP u.1)∧MR intR 3 1 g u.1 u.2 (fun p=>frI l l.length p))
   (fun c=>c.1≤l.length∧c.2.2.2[0]?=some (mapB encP c.2.1)∧MR intR 3 1 c.2.2.2 c.2.1 c.2.2.1 (fun p=>frI l c.1 p)) (fun c=>l.length-c.1)
  ⟨Nat.zero_le _,rfl,MR.init.congr fun p=>rfl⟩
  (by simp -implicitDefEqProofs [k14_6]) rfl (by
  intro nx c hc ih
  obtain ⟨i,m,bl,g⟩:=c
  obtain ⟨h1,h2,h3⟩:=hc
  simp only at h1 h2 h3
  have hgl:=get_lt h2
  by_cases hi:i<l.length
  ·have e0:=ix i hi
   rw [side_val] at e0
   have eP:l[i].1=(l[i].1.1,l[i].1.2):=rfl
   have q0:(g++[.cells 48 [.int .i64 l[i].1.1,.int .i64 l[i].1.2,.int .i64 l[i].2.1,.int .i64 l[i].2.2] 0])[0]?=some (mapB encP m):=by rw [List.getElem?_append_left hgl];exact h2
   have en:=entry_map (P:=E.P) (lo:=0) (zv:=.slice none 0 0) (k:=l[i].1) keyP q0 (Nat.le_refl _)
   have ld:loadT ⟨some true,some 2⟩ (g++[.cells 48 [.int .i64 l[i].1.1,.int .i64 l[i].1.2,.int .i64 l[i].2.1,.int .i64 l[i].2.2] 0]) (.pointer (some ⟨g.length,0,none⟩))=some (encP l[i].1):=obj_sub7 (b:=g.length) (j:=0) (n:=2) (c:=[.int .i64 l[i].1.1,.int .i64 l[i].1.2,.int .i64 l[i].2.1,.int .i64 l[i].2.2]) end0 (by show 0+2≤4;omega)
   have M0:MR intR 3 1 (g++[.cells 48 [.int .i64 l[i].1.1,.int .i64 l[i].1.2,.int .i64 l[i].2.1,.int .i64 l[i].2.2] 0]) m bl (fun p=>frI l i p):=h3.keep fun o x _ hx=>by rw [List.getElem?_append_left (get_lt hx)];exact hx
   generalize hG:g++[AObj.cells 48 [.int .i64 l[i].1.1,.int .i64 l[i].1.2,.int .i64 l[i].2.1,.int .i64 l[i].2.2] 0]=G at *
   generalize hu:(aget m l[i].1).getD (.slice none 0 0)=u at *
   have M1:MR intR 3 1 (G.set 0 (mapB encP (aset m l[i].1 u))) m bl (fun p=>frI l i p):=M0.keep fun o x ho hx=>by rw [List.getElem?_set_ne (by omega)];exact hx
   have m1:(G.set 0 (mapB encP (aset m l[i].1 u)))[0]?=some (mapB encP (aset m l[i].1 u)):=by rw [List.getElem?_set_self (get_lt q0)]
   obtain ⟨h',bl',ap,M2,hl1,hk1⟩:=M1.add (el:=elI) (l0:=0) (Nat.zero_le _) (get_lt m1) l[i].1 (i:Int) (u:=lst true [.int .i64 (i:Int)]) rfl (fun h=>cells_lst (by rfl)) (by have:=fr_len l i l[i].1;show (_+1) * 8≤2 ^ 47;omega)
   rw [hu] at ap
   have m2:=hk1 _ _ (by omega) m1
   have st:=store_map (lo:=0) (k:=l[i].1) (x:=intR.sl (bl' l[i].1) (frI l i l[i].1++[(i:Int)])) (n:=(aidx m l[i].1:Int)) m2 (Nat.le_refl _) (by rw [aget_set,if_pos rfl];simp) (by rw [aidx_set])
   rw [aset_set] at st
   have M2:=M2.congr (fr_snoc hi)
   generalize intR.sl (bl' l[i].1) (frI l i l[i].1++[(i:Int)])=v at *
   generalize aset m l[i].1 v=m' at *
   have m3:(h'.set 0 (mapB encP m'))[0]?=some (mapB encP m'):=by rw [List.getElem?_set_self (get_lt m2)]
   have M3:MR intR 3 1 (h'.set 0 (mapB encP m')) m' bl' (fun p=>frI l (i+1) p):=M2.keep fun o x ho hx=>by rw [List.getElem?_set_ne (by omega)];exact hx
   have wi:IntKind.i64.wrap ((i:Int)+1)=((i+1:Nat):Int):=(wrap64 (by omega) (by omega)).trans (by omega)
   unfold elI at ap
   have ih:=fun vs=>ih (i+1,m',bl',trim g.length vs (h'.set 0 (mapB encP m'))) (by show l.length-(i+1)<l.length-i;omega) ⟨hi,trim_get hgl m3,M3.trim m3 hgl⟩
   generalize encP l[i].1=kp at *
   simp -implicitDefEqProofs [k14_6] at ih
   simp -implicitDefEqProofs [r14_6,k14_6,hi,e0,hG,ld,lit_num,en,ap,st,wi]
   exact ih _
  ·have e:i=l.length:=by omega
   refine ⟨(m,bl),g,?_,h2,by rw [e] at h3;exact h3⟩
   simp -implicitDefEqProofs [r14_6,k14_6,hi,trim_le])
 obtain ⟨lm,bl⟩:=u
 simp only at g0 gM
 have mk:=make_one (h:=g) (el:=⟨4,1,1,.bool false,⟨some false,some 1⟩⟩) (n:=l.length) (k:=.i64) (k':=.i64) rfl rfl (by omega) (by decide)
 have ez:List.replicate l.length (Value.bool false)=(List.replicate l.length false).map .bool:=by rw [List.map_replicate]
 rw [ez] at mk
 have rB:∀ k,aget lm k≠none→1≤bl k∧bl k<g.length:=fun k hk=>gM.lt hk
 have hgl:=get_lt g0
 have wl:waysF (nxI l) l.length l.length 0 (List.replicate l.length false)=waysL l:=rfl
 generalize hD:g.length=D at *
 have M0:MR intR 3 1 (g++[rowB (List.replicate l.length false),ptsE.row 22 []]) lm bl (fun p=>frI l l.length p):=gM.keepB fun k x hk hx=>by rw [List.getElem?_append_left (get_lt hx)];exact hx
 simp -implicitDefEqProofs [k14_6,lS,mk,prep_new,newK_nil zPs,hD]
 generalize hX:LL _ _ _ _=X
 obtain ⟨o,h,rfl,oe,hB,hol⟩:=LL_uxk hX (α:=Nat × List Bool × List (List Pt) × Heap) (U:=List (List Pt)) (0,List.replicate l.length false,[],g++[rowB (List.replicate l.length false),ptsE.row 22 []]) (fun c=>[(8,Enc.sl (D+1) c.2.2.1),(44,.int .i64 (c.1:Int))]) (fun c=>c.2.2.2) (.exit 2) (fun o=>[(8,Enc.sl (D+1) o),(44,undef)])
   (fun o h=>o=loopsL l∧h[D+1]?=some (ptsE.row 22 o)∧o.length≤l.length)
   (fun c=>c.1≤l.length∧c.2.1.length=l.length∧c.2.2.1.length≤c.1∧c.2.2.1++((waysF (nxI l) l.length (l.length-c.1) c.1 c.2.1).map fun w=>rotM (cornF l w)).filter (fun p=>!p.isEmpty)=loopsL l ∧
    c.2.2.2[0]?=some (mapB encP lm)∧MR intR 3 1 c.2.2.2 lm bl (fun p=>frI l l.length p)∧c.2.2.2[D]?=some (rowB c.2.1)∧c.2.2.2[D+1]?=some (ptsE.row 22 c.2.2.1)) (fun c=>l.length-c.1)
  ⟨Nat.zero_le _,List.length_replicate,Nat.zero_le _,rfl,by rw [List.getElem?_append_left (by omega)];exact g0,M0,by rw [← hD];exact end1,by rw [← hD];exact end2⟩
  (by simp -implicitDefEqProofs [k14_13,show Enc.sl (D+1) ([]:List (List Pt))=.slice (some ⟨D+1,0,some 0⟩) 0 0 from rfl]) (by simp [rowB,Enc.row,Enc.vals]) (by
  intro nx c hc ih
  obtain ⟨i,d,o,h⟩:=c
  obtain ⟨h1,h2,h3,h4,h5,h6,h7,h8⟩:=hc
  simp only at h1 h2 h3 h4 h5 h6 h7 h8
  by_cases hi:i<l.length
  ·have hBl:=get_lt h8
   have ew:waysF (nxI l) l.length (l.length-i) i d=(trc (nxI l) (l.length+1) d i).2 :: waysF (nxI l) l.length (l.length-(i+1)) (i+1) (trc (nxI l) (l.length+1) d i).1:=by
    rw [show l.length-i=(l.length-(i+1))+1 by omega];rfl
   rw [ew] at h4
   obtain ⟨D',hD'⟩:∃ D',(trc (nxI l) (l.length+1) d i).1=D':=⟨_,rfl⟩
   obtain ⟨W,hW⟩:∃ W,(trc (nxI l) (l.length+1) d i).2=W:=⟨_,rfl⟩
   have hf0:freeN d<l.length+1:=by have:=Rg.freeN_le d;omega
   have hf1:=Rg.freeN_le d
   rw [hD',hW] at h4
   have wi:IntKind.i64.wrap ((i:Int)+1)=((i+1:Nat):Int):=(wrap64 (by omega) (by omega)).trans (by omega)
   simp -implicitDefEqProofs [r14_13,k14_13,hi,prep_new,newK_nil zP]
   generalize hX2:LL _ _ _ _=X2
   obtain ⟨_,g1,rfl,p1,p2,p3,p4,p5,p6,p7⟩:=LL_uxk hX2 (α:=Nat × List Bool × Nat × List Pt × Heap) (U:=Unit) (l.length+1,d,i,[],h++[spanR.row 42 []]) (fun c=>[(10,spanR.sl h.length c.2.2.2.1),(11,.int .i64 (c.2.2.1:Int))]) (fun c=>c.2.2.2.2) (.exit 4) (fun _=>[(10,spanR.sl h.length (cornF l W)),(11,undef)])
    (fun _ g=>D'.length=l.length∧(cornF l W).length≤l.length∧g[0]?=some (mapB encP lm)∧MR intR 3 1 g lm bl (fun p=>frI l l.length p)∧g[D]?=some (rowB D')∧g[D+1]?=some (ptsE.row 22 o)∧g[h.length]?=some (spanR.row 42 (cornF l W)))
    (fun c=>freeN c.2.1<c.1∧c.2.1.length=l.length∧c.2.2.1<l.length∧(trc (nxI l) c.1 c.2.1 c.2.2.1).1=D'∧c.2.2.2.1++cornF l (trc (nxI l) c.1 c.2.1 c.2.2.1).2=cornF l W∧c.2.2.2.1.length+freeN c.2.1≤l.length ∧
     c.2.2.2.2[0]?=some (mapB encP lm)∧MR intR 3 1 c.2.2.2.2 lm bl (fun p=>frI l l.length p)∧c.2.2.2.2[D]?=some (rowB c.2.1)∧c.2.2.2.2[D+1]?=some (ptsE.row 22 o)∧c.2.2.2.2[h.length]?=some (spanR.row 42 c.2.2.2.1)) (fun c=>c.1)
    ⟨hf0,h2,hi,hD',by rw [hW];rfl,by show 0+freeN d≤l.length;omega,by rw [List.getElem?_append_left (by omega)];exact h5,h6.keep fun o x _ hx=>by rw [List.getElem?_append_left (get_lt hx)];exact hx,by rw [List.getElem?_append_left (by omega)];exact h7,by rw [List.getElem?_append_left (by omega)];exact h8,end0⟩
    (by simp -implicitDefEqProofs [k14_17,Rec.sl_nil]) (by simp [Rec.row_nil];rfl) (by
    intro nx c hc ih
    obtain ⟨k,d1,j,p,g1⟩:=c
    obtain ⟨i1,i2,i3,i4,i5,i6,i7,i8,i9,i10,i11⟩:=hc
    simp only at i1 i2 i3 i4 i5 i6 i7 i8 i9 i10 i11
    obtain ⟨k,rfl⟩:∃ k',k=k'+1:=⟨k-1,by omega⟩
    have dl:=get_lt i9
    have dx:∀ u:Nat,u<l.length→indexAddrT (.sl 4 ⟨some false,some 1⟩) (.slice (some ⟨D,0,none⟩) l.length l.length) (.int .i64 (u:Int))=some (cAt D u):=fun u hu=>by
     rw [index_slice,if_pos ⟨by omega,by omega⟩];simp [shift,cAt]
    have dxj:=dx j i3
    have hdj:j<d1.length:=by omega
    have ld:=obj_load (b:=D) (j:=j) (sz:=some 1) i9 (v:=.bool d1[j]) (by rw [List.getElem?_map,List.getElem?_eq_getElem hdj];rfl)
    cases hdv:d1[j]
    ·have hgt:gtS l j=l[j]:=Rg.gt_get i3
     have hnx:=(hnet.next i3).1
     have hd0:d1[j]?=some false:=by rw [List.getElem?_eq_getElem hdj,hdv]
     have hfr:=Rg.freeN_set hd0
     have e:trc (nxI l) (k+1) d1 j=((trc (nxI l) k (d1.set j true) (nxI l j)).1,j :: (trc (nxI l) k (d1.set j true) (nxI l j)).2):=by
      conv=>lhs;unfold trc
      rw [if_pos hd0]
     rw [e] at i4 i5
     simp only at i4 i5
     have ec:cornF l (j :: (trc (nxI l) k (d1.set j true) (nxI l j)).2)=(if turnI l[j] (gtS l (nxI l j))=0 then [] else [l[j].2])++cornF l (trc (nxI l) k (d1.set j true) (nxI l j)).2:=by rw [← hgt];rfl
     rw [ec,← List.append_assoc] at i5
     rw [hdv] at ld
     have st:=obj_store (b:=D) (j:=j) (lo:=0) (v:=.bool true) i9 (by rw [List.length_map];exact hdj) (Nat.zero_le _) rfl
     have es:(d1.map Value.bool).set j (.bool true)=(d1.set j true).map .bool:=(List.map_set ..).symm
     rw [es] at st
     have st:storeT (some 1) g1 0 (.bool true) (cAt D j)=some (g1.set D (rowB (d1.set j true))):=st
     have old:∀ o x,o≠D→g1[o]?=some x→(g1.set D (rowB (d1.set j true)))[o]?=some x:=fun o x ho hx=>by rw [List.getElem?_set_ne (by omega)];exact hx
     have w7:=old _ _ (by omega) i7
     have w8:MR intR 3 1 (g1.set D (rowB (d1.set j true))) lm bl (fun p=>frI l l.length p):=i8.keepB fun q x hq hx=>old _ _ (by have:=rB q hq;omega) hx
     have w9:(g1.set D (rowB (d1.set j true)))[D]?=some (rowB (d1.set j true)):=List.getElem?_set_self dl
     have w10:=old _ _ (by omega) i10
     have w11:=old h.length _ (by omega) i11
     have hGl:(g1.set D (rowB (d1.set j true))).length=g1.length:=List.length_set
     generalize hG:g1.set D (rowB (d1.set j true))=G at *
     have ej:=ix j i3
     rw [side_val] at ej
     -- the pieces that go on
     have hne:fromI l l[j].2≠[]:=fun q=>by
      have hn2:=hnet.next i3
      have:nxI l j∈fromI l (gtS l j).2:=Rg.from_mem.2 ⟨hn2.1,hn2.2.1⟩
      rw [hgt,q] at this;cases this
     obtain ⟨v,hv⟩:∃ v,aget lm l[j].2=some v:=by
      cases q:aget lm l[j].2 with
      | some v=>exact ⟨v,rfl⟩
      | none =>
       have:=w8.non _ q
       rw [fr_all] at this
       exact absurd (List.map_eq_nil_iff.1 this) hne
     obtain ⟨v1,v2,v3⟩:=w8.val _ v hv
     have lk:=lookup_get (P:=E.P) (h:=G) (zv:=.slice none 0 0) (k:=l[j].2) keyP w7
     rw [hv,v1] at lk
     have lk:lookupT E.P (some ⟨42,some (.slice none 0 0)⟩) G (.map (some 0)) (.agg ⟨[.int .i64 l[j].2.1,.int .i64 l[j].2.2]⟩) false=some (intR.sl (bl l[j].2) ((fromI l l[j].2).map fun (i:Nat)=>(i:Int))):=lk
     have v2:G[bl l[j].2]?=some (intR.row 3 ((fromI l l[j].2).map fun (i:Nat)=>(i:Int))):=v2
     have hmem:∀ u∈fromI l l[j].2,u<l.length:=fun u hu=>(Rg.from_mem.1 hu).1
     have enx:nxI l j=pickI l l[j] (fromI l l[j].2) ((fromI l l[j].2).headD 0):=by unfold nxI;rw [hgt]
     have hFl:(fromI l l[j].2).length≤l.length:=by
      have:=fr_len l l.length l[j].2
      rw [fr_all,List.length_map] at this
      exact this
     generalize fromI l l[j].2=Fl at *
     generalize bl l[j].2=bk at *
     have px:∀ (u:Nat) (hu:u<Fl.length),indexAddrT (.sl 3 ⟨some false,some 1⟩) (intR.sl bk (Fl.map fun (i:Nat)=>(i:Int))) (.int .i64 (u:Int))=some (Rec.at_ (R:=intR) bk (Fl.map fun (i:Nat)=>(i:Int)) u 0):=fun u hu=>int_index (by rw [List.length_map];exact hu)
     have pl:∀ (u:Nat) (hu:u<Fl.length),loadT ⟨some false,some 1⟩ G (Rec.at_ (R:=intR) bk (Fl.map fun (i:Nat)=>(i:Int)) u 0)=some (.int .i64 (Fl[u]:Int)):=fun u hu=>by
      have:=int_load (h:=G) (b:=bk) (l:=Fl.map fun (i:Nat)=>(i:Int)) (i:=u) (sz:=some 1) v2 (by rw [List.length_map];exact hu)
      rw [List.getElem_map] at this
      exact this
     have ln:lenT .sl G (intR.sl bk (Fl.map fun (i:Nat)=>(i:Int)))=some (.int .i64 Fl.length):=(Rec.sl_len (R:=intR)).trans (by rw [List.length_map])
     have hF0:0<Fl.length:=List.length_pos_iff.2 hne
     have px0:=px 0 hF0
     have pl0:=pl 0 hF0
     have eh:Fl[0]=Fl.headD 0:=by cases Fl with | nil=>exact absurd rfl hne | cons a F=>rfl
     rw [eh] at pl0
     have px0:indexAddrT (.sl 3 ⟨some false,some 1⟩) (intR.sl bk (Fl.map fun (i:Nat)=>(i:Int))) (.int .i64 0)=_:=px0
     generalize hVR:intR.sl bk (Fl.map fun (i:Nat)=>(i:Int))=VR at *
     generalize Rec.at_ (R:=intR) bk (Fl.map fun (i:Nat)=>(i:Int))=at_ at *
     have hnj:nearS l[j]:=hnear _ (List.getElem_mem i3)
     have nxl:pickI l l[j] Fl (Fl.headD 0)<l.length:=by rw [← enx];exact hnx
     have tx:=turn_spec l[j] l[nxI l j] hnj (hnear _ (List.getElem_mem hnx))
     have egn:gtS l (nxI l j)=l[nxI l j]:=Rg.gt_get hnx
     have ejn:=ix (nxI l j) hnx
     rw [side_val] at ejn
     rw [egn] at i5
     simp -implicitDefEqProofs [r14_17,k14_17,dxj,ld,st,ej,lk,ln,px0,pl0]
     rw [LL_for (γ:=Nat) Fl (Fl.headD 0) (fun u nx=>[(12,.int .i64 (nx:Int)),(73,.int .i64 u)]) (fun _ _=>G) (fun _ rest nx=>(.exit 6,[(12,.int .i64 (pickI l l[j] rest nx:Int)),(73,undef)],G)) (fun _ nx=>nx<l.length) (by omega) (hmem _ (by rw [← eh];exact List.getElem_mem hF0))]
     ·rw [← enx]
      by_cases ht:turnI l[j] l[nxI l j]=0
      ·rw [if_pos ht,List.append_nil] at i5
       have ih:=ih (k,d1.set j true,nxI l j,p,G) (Nat.lt_succ_self k) ⟨by show freeN (d1.set j true)<k;omega,by show (d1.set j true).length=_;rw [List.length_set];exact i2,hnx,i4,i5,by show p.length+freeN (d1.set j true)≤_;omega,w7,w8,w9,w10,w11⟩
       simp -implicitDefEqProofs [k14_17] at ih
       simp -implicitDefEqProofs [k14_21,ej,ejn,ret0 m35,tx,ht,trim_le,hGl]
       exact ih
      ·rw [if_neg ht] at i5
       have ap:=app_pt (h:=G) (b:=h.length) (lo:=0) (c:=p) l[j].2 w11 (Nat.zero_le _) (by omega)
       have ih:=ih (k,d1.set j true,nxI l j,p++[l[j].2],G.set h.length (spanR.row 42 (p++[l[j].2]))) (Nat.lt_succ_self k) ⟨by show freeN (d1.set j true)<k;omega,by show (d1.set j true).length=_;rw [List.length_set];exact i2,hnx,i4,i5,by show (p++[l[j].2]).length+freeN (d1.set j true)≤_;rw [List.length_append];show p.length+1+_≤_;omega,
        by rw [List.getElem?_set_ne (by omega)];exact w7,w8.keepB fun q x hq hx=>by rw [List.getElem?_set_ne (by have:=rB q hq;omega)];exact hx,by rw [List.getElem?_set_ne (by omega)];exact w9,by rw [List.getElem?_set_ne (by omega)];exact w10,List.getElem?_set_self (get_lt w11)⟩
       simp -implicitDefEqProofs [k14_17] at ih
       simp -implicitDefEqProofs [k14_21,ej,ejn,ret0 m35,tx,ht,lit_pt,ap,trim_le,hGl]
       exact ih
     ·simp -implicitDefEqProofs [k14_21]
     ·rfl
     ·intro nx u c hu _
      have e0:pickI l l[j] [] c=c:=rfl
      rw [e0]
      simp -implicitDefEqProofs [r14_21,k14_21,hu,trim_le]
     ·intro nx u q rest c hu hv hd hw hc ih
      have pxu:=px u hu
      have plu:=pl u hu
      rw [hv] at plu
      have hq:q<l.length:=hmem q (by rw [← hv];exact List.getElem_mem hu)
      have eq:=ix q hq
      rw [side_val] at eq
      have tq:=turn_spec l[j] l[q] hnj (hnear _ (List.getElem_mem hq))
      have egq:gtS l q=l[q]:=Rg.gt_get hq
      have e1:pickI l l[j] (q :: rest) c=pickI l l[j] rest (if 0<turnI l[j] l[q] then q else c):=by rw [← egq];rfl
      rw [e1]
      have ih1:=ih q hq
      have ih2:=ih c hc
      simp -implicitDefEqProofs [k14_21] at ih1 ih2
      by_cases ht:0<turnI l[j] l[q]
      ·rw [if_pos ht]
       simp -implicitDefEqProofs [r14_21,k14_21,hu,pxu,plu,ej,eq,ret0 m35,tq,ht,hw,trim_le]
       exact ih1
      ·rw [if_neg ht]
       simp -implicitDefEqProofs [r14_21,k14_21,hu,pxu,plu,ej,eq,ret0 m35,tq,ht,hw,trim_le]
       exact ih2
    ·have e:trc (nxI l) (k+1) d1 j=(d1,[]):=by
      unfold trc
      rw [if_neg (by rw [List.getElem?_eq_getElem hdj,hdv];simp)]
     rw [e] at i4 i5
     have i4:d1=D':=i4
     have i5:p++[]=cornF l W:=i5
     rw [List.append_nil] at i5
     subst i4
     rw [hdv] at ld
     refine ⟨(),g1,?_,i2,by rw [← i5];omega,i7,i8,i9,i10,by rw [← i5];exact i11⟩
     simp -implicitDefEqProofs [r14_17,k14_17,dxj,ld,i5,trim_le])
   by_cases hP:cornF l W=[]
   ·rw [List.map_cons,hP] at h4
    have h4:o++((waysF (nxI l) l.length (l.length-(i+1)) (i+1) D').map fun w=>rotM (cornF l w)).filter (fun p=>!p.isEmpty)=loopsL l:=h4
    have ih:=fun vs=>ih (i+1,D',o,trim h.length vs g1) (by show l.length-(i+1)<l.length-i;omega) ⟨hi,p1,by show o.length≤i+1;omega,h4,trim_get (by omega) p3,p4.trim p3 (by omega),trim_get (by omega) p5,trim_get hBl p6⟩
    have hs:spanR.sl h.length (cornF l W)=spanR.sl h.length []:=by rw [hP]
    have hs2:∀ g,lenT .sl g (spanR.sl h.length [])=some (.int .i64 0):=fun g=>rfl
    rw [hs]
    simp -implicitDefEqProofs [k14_13] at ih
    simp -implicitDefEqProofs [k14_17,hs2,wi]
    exact ih _
   ·have hPl:0<(cornF l W).length:=List.length_pos_iff.2 hP
    have hPi:0<((cornF l W).length:Int):=by omega
    have fz:=Rec.freeze_row (R:=spanR) (P:=E.P) (lo:=0) p7 zP aPt7 (Nat.zero_le _)
    rw [if_neg (by omega)] at fz
    have q3:(g1.set h.length .dead)[0]?=some (mapB encP lm):=by rw [List.getElem?_set_ne (by omega)];exact p3
    have q4:MR intR 3 1 (g1.set h.length .dead) lm bl (fun p=>frI l l.length p):=p4.keepB fun q x hq hx=>by rw [List.getElem?_set_ne (by have:=rB q hq;omega)];exact hx
    have q5:(g1.set h.length .dead)[D]?=some (rowB D'):=by rw [List.getElem?_set_ne (by omega)];exact p5
    have q6:(g1.set h.length .dead)[D+1]?=some (ptsE.row 22 o):=by rw [List.getElem?_set_ne (by omega)];exact p6
    generalize hG:g1.set h.length .dead=G at *
    obtain ⟨m,kk,r1,r2,x,y,r3,r4,r5⟩:=rot_spec G (cornF l W) hP (by omega)
    have ne:(rotM (cornF l W)).isEmpty=false:=by
     have:=(Rg.rotM_rot (cornF l W)).len
     cases hq:rotM (cornF l W) with
     | nil=>rw [hq] at this;simp at this;exact absurd this (by omega)
     | cons a q=>rfl
    rw [List.map_cons,List.filter_cons_of_pos (by rw [ne];rfl)] at h4
    have ap:=Enc.app (O:=ptsE) (el:=elPts) (h:=G) (lo:=0) (b:=D+1) (m:=[rotM (cornF l W)]) (u:=lst true [lst false (spanR.vals (rotM (cornF l W)))]) rfl q6 (Enc.cells_tree (O:=ptsE) (l:=[rotM (cornF l W)])) (Nat.zero_le _) (by show (_+1) * 24≤2 ^ 47;omega)
    have h4:(o++[rotM (cornF l W)])++((waysF (nxI l) l.length (l.length-(i+1)) (i+1) D').map fun w=>rotM (cornF l w)).filter (fun p=>!p.isEmpty)=loopsL l:=by rw [List.append_assoc];exact h4
    generalize hG2:G.set (D+1) (ptsE.row 22 (o++[rotM (cornF l W)]))=G2 at *
    have s3:G2[0]?=some (mapB encP lm):=by rw [← hG2,List.getElem?_set_ne (by omega)];exact q3
    have s4:MR intR 3 1 G2 lm bl (fun p=>frI l l.length p):=q4.keepB fun q x hq hx=>by rw [← hG2,List.getElem?_set_ne (by have:=rB q hq;omega)];exact hx
    have s5:G2[D]?=some (rowB D'):=by rw [← hG2,List.getElem?_set_ne (by omega)];exact q5
    have s6:G2[D+1]?=some (ptsE.row 22 (o++[rotM (cornF l W)])):=by rw [← hG2];exact List.getElem?_set_self (get_lt q6)
    have ih:=fun vs=>ih (i+1,D',o++[rotM (cornF l W)],trim h.length vs G2) (by show l.length-(i+1)<l.length-i;omega) ⟨hi,p1,by show (o++[_]).length≤i+1;rw [List.length_append];show o.length+1≤i+1;omega,h4,trim_get (by omega) s3,s4.trim s3 (by omega),trim_get (by omega) s5,trim_get hBl s6⟩
    have ln:lenT .sl g1 (spanR.sl h.length (cornF l W))=some (.int .i64 ((cornF l W).length:Int)):=Rec.sl_len
    have rf:∀ g,reify E.P 8 g (lst false (spanR.vals (cornF l W)))=some (lst false (spanR.vals (cornF l W))):=fun _=>rfl
    have sc:scalar (.agg ⟨[.int .i64 m.1,.int .i64 m.2]⟩)=true:=by simp [scalar,flat,atom]
    unfold elPts at ap
    simp -implicitDefEqProofs [k14_13] at ih
    simp -implicitDefEqProofs [k14_17,ln,hPi,hPl,prep_frz,fz,ret0 m37,rf,r1,sc,ret0 m36,r2,r3,r4,lit_pts2,ret1 m38,pts_set,r5,lit_pts1,ap,wi]
    exact ih _
  ·have e:l.length-i=0:=by omega
   rw [e] at h4
   have h4:o++[]=loopsL l:=h4
   rw [List.append_nil] at h4
   refine ⟨o,h,?_,h4,h8,by omega⟩
   simp -implicitDefEqProofs [r14_13,k14_13,hi,trim_le])
 subst oe
 have so:=sortP_spec (lo:=0) hnet hB (Nat.zero_le _) (by omega)
 have el:(outL l).length=(loopsL l).length:=List.length_mergeSort ..
 have es:Enc.sl (D+1) (loopsL l)=Enc.sl (D+1) (outL l):=by unfold Enc.sl;rw [el]
 have rr:=Enc.reifyR_sl (O:=ptsE) (P:=E.P) (h:=h.set (D+1) (ptsE.row 22 (outL l))) (b:=D+1) (t:=22) (l:=outL l) (List.getElem?_set_self (get_lt hB)) zPs aPs
 rw [← es] at rr
 simp -implicitDefEqProofs [k14_13,ret2 (E:=E) (f:=39) rfl,so,rr]
end Go.Proofs.YtnhdabelepjgbaaGreat.Bm
namespace Go.Proofs.YtnhdabelepjgbaaGreat.Rg
structure Cuts (a:List Rect) (Y:Int→List Int):Prop where
 asc:∀ x,(Y x).Pairwise (· < ·)
 full:∀ {x:Int},∀ r∈a,(r.x1=x∨r.x0=x)→r.y0∈Y x∧r.y1∈Y x
def colYY (Y:Int→List Int) (a:List Rect) (x:Int):List Sd:=upL x (endsX a x) (begsX a x) (Y x)
def bdY (Y:Int→List Int) (a:List Rect):List Sd:=bdH a++(xsB a).flatMap (colYY Y a)
theorem cuts_own (a:List Rect):Cuts a (ysX a):=⟨ysX_asc a,fun r hr h=>⟨ysX_mem.2 ⟨r,hr,h,.inl rfl⟩,ysX_mem.2 ⟨r,hr,h,.inr rfl⟩⟩⟩
theorem bdY_own (a:List Rect):bdY (ysX a) a=bdL a:=rfl
section
variable {a:List Rect} (ha:Apart a) {Y:Int→List Int} (hY:Cuts a Y)
include ha hY
theorem colc {x u v:Int} (hx:x∈xsB a) (h:adjL (Y x) u v):cell a (x-1) u=cell a (x-1) (v-1)∧cell a x u=cell a x (v-1):=by
 have hlt:=adj_lt (hY.asc x) h
 rw [← left_in_cell ha hx,← left_in_cell ha hx,← right_in_cell ha hx,← right_in_cell ha hx]
 have key:∀ L:List Rect,(∀ r∈L,r.y0∈Y x∧r.y1∈Y x)→inY L u=inY L (v-1):=fun L hL=>any_ext fun r hr=>by
  obtain ⟨h1,h2⟩:=hL r hr
  have h1:=adj_btw (hY.asc x) h h1
  have h2:=adj_btw (hY.asc x) h h2
  rw [Bool.eq_iff_iff,Bool.and_eq_true,Bool.and_eq_true,decide_eq_true_eq,decide_eq_true_eq,decide_eq_true_eq,decide_eq_true_eq]
  omega
 constructor
 ·refine key _ fun r hr=>?_
  obtain ⟨h1,h2⟩:=List.mem_filter.1 hr
  rw [decide_eq_true_eq] at h2
  exact ⟨(hY.full r h1 (.inl h2)).1,(hY.full r h1 (.inl h2)).2⟩
 ·refine key _ fun r hr=>?_
  obtain ⟨h1,h2⟩:=List.mem_filter.1 hr
  rw [decide_eq_true_eq] at h2
  exact ⟨(hY.full r h1 (.inr h2)).1,(hY.full r h1 (.inr h2)).2⟩
theorem bdy_mem {s:Sd}:s∈bdY Y a↔(∃ r∈a,s=botR r)∨(∃ r∈a,s=topR r) ∨
  (∃ x∈xsB a,∃ u v,adjL (Y x) u v∧s=((x,u),(x,v))∧cell a (x-1) u=true∧cell a x u=false) ∨
  (∃ x∈xsB a,∃ u v,adjL (Y x) u v∧s=((x,v),(x,u))∧cell a x u=true∧cell a (x-1) u=false):=by
 have _:=hY
 unfold bdY bdH
 rw [List.mem_append,List.mem_flatMap,List.mem_flatMap]
 constructor
 ·rintro (⟨r,hr,h⟩ | ⟨x,hx,h⟩)
  ·simp only [List.mem_cons,List.not_mem_nil,or_false] at h
   rcases h with h | h
   ·exact .inl ⟨r,hr,h⟩
   ·exact .inr (.inl ⟨r,hr,h⟩)
  ·unfold colYY at h
   rw [up_mem] at h
   obtain ⟨u,v,h1,h2⟩:=h
   rw [left_in_cell ha hx,right_in_cell ha hx] at h2
   rcases h2 with ⟨e,h3,h4⟩ | ⟨e,h3,h4⟩
   ·exact .inr (.inr (.inl ⟨x,hx,u,v,h1,e,h3,h4⟩))
   ·exact .inr (.inr (.inr ⟨x,hx,u,v,h1,e,h3,h4⟩))
 ·rintro (⟨r,hr,rfl⟩ | ⟨r,hr,rfl⟩ | ⟨x,hx,u,v,h1,h2⟩ | ⟨x,hx,u,v,h1,h2⟩)
  ·exact .inl ⟨r,hr,by simp⟩
  ·exact .inl ⟨r,hr,by simp⟩
  ·refine .inr ⟨x,hx,?_⟩
   unfold colYY
   rw [up_mem]
   refine ⟨u,v,h1,?_⟩
   rw [left_in_cell ha hx,right_in_cell ha hx]
   exact .inl h2
  ·refine .inr ⟨x,hx,?_⟩
   unfold colYY
   rw [up_mem]
   refine ⟨u,v,h1,?_⟩
   rw [left_in_cell ha hx,right_in_cell ha hx]
   exact .inr h2
theorem bdy_told {s:Sd} (h:s∈bdY Y a):stS s∧(QIn a s.2.1 s.2.2 (upS s) (fwS s)∧s.2.1∈xsB a∧s.2.2∈Y s.2.1)∧QOut a s.1.1 s.1.2 (upS s) (fwS s):=by
 rcases (bdy_mem ha hY).1 h with ⟨r,hr,rfl⟩ | ⟨r,hr,rfl⟩ | ⟨x,hx,u,v,h1,rfl,h2,h3⟩ | ⟨x,hx,u,v,h1,rfl,h2,h3⟩
 ·obtain ⟨k1,k2,k3⟩:=bot_kind ha hr
  rw [k1,k2]
  exact ⟨k3,⟨(botE_at ha (xs1 hr)).1 ⟨r,hr,rfl,rfl⟩,xs1 hr,(hY.full r hr (.inl rfl)).1⟩,(bot_at ha (xs0 hr)).1 ⟨r,hr,rfl,rfl⟩⟩
 ·obtain ⟨k1,k2,k3⟩:=top_kind ha hr
  rw [k1,k2]
  exact ⟨k3,⟨(top_at ha (xs0 hr)).1 ⟨r,hr,rfl,rfl⟩,xs0 hr,(hY.full r hr (.inr rfl)).2⟩,(topE_at ha (xs1 hr)).1 ⟨r,hr,rfl,rfl⟩⟩
 ·obtain ⟨k1,k2,k3⟩:=up_kind (x:=x) (adj_lt (hY.asc x) h1)
  obtain ⟨c1,c2⟩:=colc ha hY hx h1
  rw [k1,k2]
  exact ⟨k3,⟨⟨c1.symm.trans h2,c2.symm.trans h3⟩,hx,(adj_mem h1).2⟩,h2,h3⟩
 ·obtain ⟨k1,k2,k3⟩:=down_kind (x:=x) (adj_lt (hY.asc x) h1)
  obtain ⟨c1,c2⟩:=colc ha hY hx h1
  rw [k1,k2]
  exact ⟨k3,⟨⟨h2,h3⟩,hx,(adj_mem h1).1⟩,c2.symm.trans h2,c1.symm.trans h3⟩
theorem outy_ex {x y:Int} (hx:x∈xsB a) (hy:y∈Y x) {o f:Bool} (h:QOut a x y o f):∃ t∈bdY Y a,t.1=(x,y)∧upS t=o∧fwS t=f:=by
 cases o <;> cases f
 ·obtain ⟨r,hr,h1,h2⟩:=(topE_at ha hx).2 h
  obtain ⟨k1,k2,_⟩:=top_kind ha hr
  exact ⟨topR r,(bdy_mem ha hY).2 (.inr (.inl ⟨r,hr,rfl⟩)),by unfold topR;rw [h1,h2],k1,k2⟩
 ·obtain ⟨r,hr,h1,h2⟩:=(bot_at ha hx).2 h
  obtain ⟨k1,k2,_⟩:=bot_kind ha hr
  exact ⟨botR r,(bdy_mem ha hY).2 (.inl ⟨r,hr,rfl⟩),by unfold botR;rw [h1,h2],k1,k2⟩
 ·obtain ⟨h1,h2⟩:=h
  have h1':=h1
  rw [← right_in_cell ha hx] at h1'
  obtain ⟨r,hr,hr2⟩:=List.any_eq_true.1 h1'
  rw [Bool.and_eq_true,decide_eq_true_eq,decide_eq_true_eq] at hr2
  obtain ⟨r1,r2⟩:=List.mem_filter.1 hr
  rw [decide_eq_true_eq] at r2
  obtain ⟨u,hu⟩:=adj_prev (hY.asc x) hy ((hY.full r r1 (.inr r2)).1) (by omega)
  obtain ⟨c1,c2⟩:=colc ha hY hx hu
  obtain ⟨k1,k2,_⟩:=down_kind (x:=x) (adj_lt (hY.asc x) hu)
  exact ⟨((x,y),(x,u)),(bdy_mem ha hY).2 (.inr (.inr (.inr ⟨x,hx,u,y,hu,rfl,c2.trans h1,c1.trans h2⟩))),rfl,k1,k2⟩
 ·obtain ⟨h1,h2⟩:=h
  have h1':=h1
  rw [← left_in_cell ha hx] at h1'
  obtain ⟨r,hr,hr2⟩:=List.any_eq_true.1 h1'
  rw [Bool.and_eq_true,decide_eq_true_eq,decide_eq_true_eq] at hr2
  obtain ⟨r1,r2⟩:=List.mem_filter.1 hr
  rw [decide_eq_true_eq] at r2
  obtain ⟨v,hv⟩:=adj_next (hY.asc x) hy ((hY.full r r1 (.inl r2)).2) (by omega)
  obtain ⟨k1,k2,_⟩:=up_kind (x:=x) (adj_lt (hY.asc x) hv)
  exact ⟨((x,y),(x,v)),(bdy_mem ha hY).2 (.inr (.inr (.inl ⟨x,hx,y,v,hv,rfl,h1,h2⟩))),rfl,k1,k2⟩
theorem bdy_uni {s t:Sd} (hs:s∈bdY Y a) (ht:t∈bdY Y a) (h:s.1=t.1∨s.2=t.2) (h1:upS s=upS t) (h2:fwS s=fwS t):s=t:=by
 rcases (bdy_mem ha hY).1 hs with ⟨r,hr,rfl⟩ | ⟨r,hr,rfl⟩ | ⟨x,hx,u,v,k1,rfl,_,_⟩ | ⟨x,hx,u,v,k1,rfl,_,_⟩ <;>
 rcases (bdy_mem ha hY).1 ht with ⟨r',hr',rfl⟩ | ⟨r',hr',rfl⟩ | ⟨x',hx',u',v',k1',rfl,_,_⟩ | ⟨x',hx',u',v',k1',rfl,_,_⟩
 ·have:r=r':=by
   refine rect_uni ha hr hr' ?_ ?_ <;> rcases h with h | h <;> simp only [botR,Prod.mk.injEq] at h <;> omega
  rw [this]
 ·rw [(bot_kind ha hr).2.1,(top_kind ha hr').2.1] at h2;cases h2
 ·rw [(bot_kind ha hr).1,(up_kind (x:=x') (adj_lt (hY.asc x') k1')).1] at h1;cases h1
 ·rw [(bot_kind ha hr).1,(down_kind (x:=x') (adj_lt (hY.asc x') k1')).1] at h1;cases h1
 ·rw [(top_kind ha hr).2.1,(bot_kind ha hr').2.1] at h2;cases h2
 ·have:r=r':=by
   refine rect_uni ha hr hr' ?_ ?_ <;> rcases h with h | h <;> simp only [topR,Prod.mk.injEq] at h <;> omega
  rw [this]
 ·rw [(top_kind ha hr).1,(up_kind (x:=x') (adj_lt (hY.asc x') k1')).1] at h1;cases h1
 ·rw [(top_kind ha hr).1,(down_kind (x:=x') (adj_lt (hY.asc x') k1')).1] at h1;cases h1
 ·rw [(bot_kind ha hr').1,(up_kind (x:=x) (adj_lt (hY.asc x) k1)).1] at h1;cases h1
 ·rw [(top_kind ha hr').1,(up_kind (x:=x) (adj_lt (hY.asc x) k1)).1] at h1;cases h1
 ·simp only [Prod.mk.injEq] at h
  have ex:x=x':=by rcases h with h | h <;> exact h.1
  subst ex
  rcases h with ⟨_,h⟩ | ⟨_,h⟩
  ·subst h;rw [adj_unr (hY.asc x) k1 k1']
  ·subst h;rw [adj_unl (hY.asc x) k1 k1']
 ·rw [(up_kind (x:=x) (adj_lt (hY.asc x) k1)).2.1,(down_kind (x:=x') (adj_lt (hY.asc x') k1')).2.1] at h2;cases h2
 ·rw [(bot_kind ha hr').1,(down_kind (x:=x) (adj_lt (hY.asc x) k1)).1] at h1;cases h1
 ·rw [(top_kind ha hr').1,(down_kind (x:=x) (adj_lt (hY.asc x) k1)).1] at h1;cases h1
 ·rw [(down_kind (x:=x) (adj_lt (hY.asc x) k1)).2.1,(up_kind (x:=x') (adj_lt (hY.asc x') k1')).2.1] at h2;cases h2
 ·simp only [Prod.mk.injEq] at h
  have ex:x=x':=by rcases h with h | h <;> exact h.1
  subst ex
  rcases h with ⟨_,h⟩ | ⟨_,h⟩
  ·subst h;rw [adj_unl (hY.asc x) k1 k1']
  ·subst h;rw [adj_unr (hY.asc x) k1 k1']
theorem bdy_nodup:(bdY Y a).Nodup:=by
 unfold bdY
 rw [List.nodup_append]
 refine ⟨?_,?_,fun s hs t ht hst=>?_⟩
 ·unfold bdH
  refine nodup_fm ha.nd (fun r hr=>?_) fun r hr s hs hrs z hz hz2=>?_
  ·have:=ha.pos r hr
   rw [List.nodup_cons]
   refine ⟨fun h=>?_,by simp⟩
   have h:=List.mem_singleton.1 h
   unfold botR topR at h
   simp only [Prod.mk.injEq] at h
   omega
  ·have hr':=bot_kind ha hr
   have hr2:=top_kind ha hr
   have hs':=bot_kind ha hs
   have hs2:=top_kind ha hs
   have b1:botR r∈bdY Y a:=(bdy_mem ha hY).2 (.inl ⟨r,hr,rfl⟩)
   simp only [List.mem_cons,List.not_mem_nil,or_false] at hz hz2
   rcases hz with e | e <;> rcases hz2 with e2 | e2 <;> rw [e] at e2
   ·refine hrs (rect_uni ha hr hs ?_ ?_) <;> simp only [botR,Prod.mk.injEq] at e2 <;> omega
   ·rw [e2] at hr';rw [hs2.2.1] at hr';cases hr'.2.1
   ·rw [e2] at hr2;rw [hs'.2.1] at hr2;cases hr2.2.1
   ·refine hrs (rect_uni ha hr hs ?_ ?_) <;> simp only [topR,Prod.mk.injEq] at e2 <;> omega
 ·have hxn:(xsB a).Nodup:=(sortU_asc _).imp fun h=>by omega
  refine nodup_fm hxn (fun x _=>up_nodup x _ _ (hY.asc x)) fun x _ y _ hxy z hz hz2=>?_
  obtain ⟨u,v,_,k1⟩:=up_mem.1 hz
  obtain ⟨u',v',_,k2⟩:=up_mem.1 hz2
  refine hxy ?_
  rcases k1 with ⟨e,_⟩ | ⟨e,_⟩ <;> rcases k2 with ⟨e2,_⟩ | ⟨e2,_⟩ <;> rw [e] at e2 <;> simp only [Prod.mk.injEq] at e2 <;> omega
 ·subst hst
  obtain ⟨r,hr,h⟩:=List.mem_flatMap.1 hs
  obtain ⟨x,hx,h2⟩:=List.mem_flatMap.1 ht
  obtain ⟨u,v,_,k⟩:=up_mem.1 h2
  have:=ha.pos r hr
  simp only [List.mem_cons,List.not_mem_nil,or_false] at h
  rcases h with e | e <;> rcases k with ⟨e2,_⟩ | ⟨e2,_⟩ <;> rw [e] at e2 <;> simp only [botR,topR,Prod.mk.injEq] at e2 <;> omega
theorem bdy_net:Net (bdY Y a) where
 nd:=bdy_nodup ha hY
 st s hs:=(bdy_told ha hY hs).1
 out1 s hs t ht h h1 h2:=bdy_uni ha hY hs ht (.inl h) h1 h2
 in1 s hs t ht h h1 h2:=bdy_uni ha hY hs ht (.inr h) h1 h2
 rev s hs t ht h h1:=by
  have k1:=(bdy_told ha hY hs).2.1.1
  have k2:=(bdy_told ha hY ht).2.2
  rw [← h,qOut_iff,← h1] at k2
  rw [qIn_iff] at k1
  exact q_rev _ _ _ _ _ _ _ k1 k2
 nxt s hs:=by
  obtain ⟨k0,⟨k1,k2,k3⟩,_⟩:=bdy_told ha hY hs
  rw [qIn_iff] at k1
  rcases q_next _ _ _ _ _ _ k1 with h | ⟨⟨o,f,h⟩,hu⟩
  ·obtain ⟨t,t1,t2,t3,t4⟩:=outy_ex ha hY k2 k3 (qOut_iff.2 h)
   exact .inl ⟨t,t1,t2,left_turn k0 (bdy_told ha hY t1).1 t3 t4⟩
  ·obtain ⟨t,t1,t2,_,_⟩:=outy_ex ha hY k2 k3 (qOut_iff.2 h)
   refine .inr ⟨⟨t,t1,t2⟩,fun t ht t' ht' e e'=>?_⟩
   have q1:=(bdy_told ha hY ht).2.2
   have q2:=(bdy_told ha hY ht').2.2
   rw [e,qOut_iff] at q1
   rw [e',qOut_iff] at q2
   obtain ⟨r1,r2⟩:=hu _ _ _ _ q1 q2
   exact bdy_uni ha hY ht ht' (.inl (e.trans e'.symm)) r1 r2
 two s hs s' hs' hne h:=by
  obtain ⟨k0,⟨k1,k2,k3⟩,_⟩:=bdy_told ha hY hs
  have q:=(bdy_told ha hY hs').2.1.1
  rw [← h,qIn_iff] at q
  rw [qIn_iff] at k1
  have:=q_two _ _ _ _ _ _ _ _ k1 q fun e=>hne (bdy_uni ha hY hs hs' (.inr h) e.1 e.2)
  obtain ⟨t,t1,t2,t3,t4⟩:=outy_ex ha hY k2 k3 (qOut_iff.2 this)
  exact ⟨t,t1,t2,left_turn k0 (bdy_told ha hY t1).1 t3 t4⟩
end
end Go.Proofs.YtnhdabelepjgbaaGreat.Rg
