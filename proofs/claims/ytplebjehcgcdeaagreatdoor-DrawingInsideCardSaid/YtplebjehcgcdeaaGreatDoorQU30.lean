/-
 Chapter 19: the law of the stage: encodings are read back. Conditions: the drawings' lists are no longer than memory can hold.
-/
import Derived.Test.YtplebjehcgcdeaaGreatDoorQU22
import Derived.Test.YtplebjehcgcdeaaGreatDoorQU29
import Derived.Test.YtplebjehcgcdeaaGreatDoorQU13
import Derived.Test.YtplebjehcgcdeaaGreatDoorQU16
namespace Go.Proofs.YtplebjehcgcdeaaGreatDoor.Bm
open Go Go.RowKit
abbrev tQ:TypeId:=67
def prR:Rec Prb where
 enc p:=prV p
 m:=3
 len _:=rfl
 set _:=rfl
 bel _ _:=rfl
structure LotD where
 id:Int
 ow:Int
 ar:Value
 fr:Value
def LotD.val (e:LotD):List Value:=[.int .i64 e.id,.int .i64 e.ow,e.ar,e.fr]
def LotD.ok (e:LotD):Prop:=(∀ d n,below (d+1) n e.ar=true)∧(∀ d n,below (d+1) n e.fr=true)∧settled 8 (.agg ⟨e.val⟩)=true
def asetI (l:List ((Int × Int) × Int)) (k:Int × Int) (v:Int):List ((Int × Int) × Int) :=
 match l with
 | []=>[(k,v)]
 | p :: l=>if p.1=k then (k,v) :: l else p :: asetI l k v
def tabM (T:List ((Int × Int) × Int)):List ((Int × Int) × Value):=T.map fun p=>(p.1,.int .i64 p.2)
theorem tabM_set (k:Int × Int) (v:Int):∀ T,aset (tabM T) k (.int .i64 v)=tabM (asetI T k v)
 | []=>rfl
 | p :: T=>by
  have ih:=tabM_set k v T
  show (if p.1=k then _ else _)=tabM (if p.1=k then _ else _)
  by_cases h:p.1=k
  ·rw [if_pos h,if_pos h];rfl
  ·rw [if_neg h,if_neg h]
   show _ :: aset (tabM T) k _=_ :: tabM (asetI T k v)
   rw [ih]
def pairK (p:Int × Int):Value:=.agg ⟨[.int .i64 p.1,.int .i64 p.2]⟩
def memZ:List Int→Int→Bool
 | [],_=>false
 | a :: l,s=>decide (a=s) || memZ l s
def seenZ (S:List Int):List (Int × Value):=S.map fun s=>(s,.bool true)
theorem seenZ_get:∀ (S:List Int) (s:Int),aget (seenZ S) s=if memZ S s then some (.bool true) else none
 | [],_=>rfl
 | a :: S,s=>by
  have ih:=seenZ_get S s
  show (if a=s then _ else aget (seenZ S) s)=_
  rw [ih,show memZ (a :: S) s=(decide (a=s) || memZ S s) from rfl]
  by_cases h:a=s
  ·rw [if_pos h,decide_eq_true h];rfl
  ·rw [if_neg h,decide_eq_false h,Bool.false_or]
theorem seenZ_app (S:List Int) (s:Int):seenZ (S++[s])=seenZ S++[(s,.bool true)]:=List.map_append
section
variable (bok:LotD→Nat→Bool) (bAr:LotD→Nat→Int)
def prbs (id:Int) (k:Nat) (l:List Nat):List Prb:=l.map fun j=>(id,((j % 6:Nat):Int),((j / 6:Nat):Int)+1,(k:Int))
def goI (e:LotD):List Nat→List ((Int × Int) × Int) × List Prb→List ((Int × Int) × Int) × List Prb
 | [],c=>c
 | k :: l,c=>goI e l (if bok e k then (asetI c.1 (e.id,(k:Int)) (bAr e k),c.2++prbs e.id k (List.range 72)) else c)
def goL:List LotD→List Int × List ((Int × Int) × Int) × List Prb→List Int × List ((Int × Int) × Int) × List Prb
 | [],c=>c
 | e :: l,c=>goL l (if memZ c.1 e.id || decide (e.id<0) || decide (1073741824<e.id) then c else (c.1++[e.id],goI bok bAr e (List.range 21) c.2))
def prbA (l:List LotD):List Prb:=srtP (goL bok bAr l ([],[],[])).2.1 (goL bok bAr l ([],[],[])).2.2
end
theorem uI9:E.P.underlying 3=some (.int .i64):=by kernel_rfl
theorem goI_len (bok:LotD→Nat→Bool) (bAr:LotD→Nat→Int) (e:LotD):∀ (l:List Nat) c,(goI bok bAr e l c).2.length≤c.2.length+72 * l.length
 | [],c=>Nat.le_add_right _ _
 | k :: l,c=>by
  have ih:=goI_len bok bAr e l (if bok e k then (asetI c.1 (e.id,(k:Int)) (bAr e k),c.2++prbs e.id k (List.range 72)) else c)
  show (goI bok bAr e l _).2.length≤_
  rw [List.length_cons]
  split at ih
  ·rw [if_pos ‹_›]
   rw [List.length_append] at ih
   have:(prbs e.id k (List.range 72)).length=72:=by unfold prbs;rw [List.length_map,List.length_range]
   simp only [this] at ih
   refine Nat.le_trans ih ?_
   show c.2.length+72+72 * l.length≤c.2.length+72 * (l.length+1)
   omega
  ·rw [if_neg ‹_›]
   refine Nat.le_trans ih ?_
   show c.2.length+72 * l.length≤c.2.length+72 * (l.length+1)
   omega
theorem goL_len (bok:LotD→Nat→Bool) (bAr:LotD→Nat→Int):∀ (l:List LotD) c,(goL bok bAr l c).2.2.length≤c.2.2.length+1512 * l.length
 | [],c=>Nat.le_add_right _ _
 | e :: l,c=>by
  have ih:=goL_len bok bAr l (if memZ c.1 e.id || decide (e.id<0) || decide (1073741824<e.id) then c else (c.1++[e.id],goI bok bAr e (List.range 21) c.2))
  show (goL bok bAr l _).2.2.length≤_
  rw [List.length_cons]
  split at ih
  ·rw [if_pos ‹_›];omega
  ·rw [if_neg ‹_›]
   have:=goI_len bok bAr e (List.range 21) c.2
   rw [List.length_range] at this
   refine Nat.le_trans ih ?_
   show (goI bok bAr e (List.range 21) c.2).2.length+1512 * l.length≤c.2.2.length+1512 * (l.length+1)
   omega
theorem intK:KeyEnc E.P 3 (Value.int .i64):=⟨fun _=>rfl,fun _=>by simp [keyOk,uI9],fun a b=>by (simp [aKeyEq,uI9,Instr.sameNow];exact Bool.eq_iff_iff.2 (by rw [beq_iff_eq,decide_eq_true_iff])),fun _=>by simp [Instr.sameBits]⟩
theorem keq9 (a b c d:Int):aKeyEq E.P tK (.agg ⟨[.int .i64 a,.int .i64 b]⟩) (.agg ⟨[.int .i64 c,.int .i64 d]⟩)=allOf [some (a == c),some (b == d)]:=by kernel_rfl
theorem prK:KeyEnc E.P tK pairK where
 flat s:=by
  obtain ⟨a1,a2⟩:=s
  show (#[Value.int .i64 a1,Value.int .i64 a2]).all atom=true
  simp [atom]
 ok s:=by
  obtain ⟨a1,a2⟩:=s
  show keyOk E.P 4 tK (.agg ⟨[.int .i64 a1,.int .i64 a2]⟩)=true
  kernel_rfl
 eq a b:=by
  obtain ⟨a1,a2⟩:=a
  obtain ⟨b1,b2⟩:=b
  refine (keq9 a1 a2 b1 b2).trans ?_
  by_cases h1:a1=b1
  ·by_cases h2:a2=b2
   ·simp [allOf,h1,h2]
   ·have:(a2 == b2)=false:=by simpa using h2
    simp [allOf,h1,h2,this]
  ·have:(a1 == b1)=false:=by simpa using h1
   simp [allOf,h1,this]
 bits s:=by
  obtain ⟨a1,a2⟩:=s
  simp [pairK,Instr.sameBits]
theorem zQ:szOf E.P tQ=some 4:=by kernel_rfl
theorem aQ:aggT E.P tQ=some true:=by kernel_rfl
theorem lit_prb (h:Heap) (a b c d:Int):buildSliceT (some ⟨tQ,4,32,.agg ⟨[.int .i64 0,.int .i64 0,.int .i64 0,.int .i64 0]⟩,⟨some true,some 4⟩⟩) false h 1 #[(0,.agg ⟨[.int .i64 a,.int .i64 b,.int .i64 c,.int .i64 d]⟩)]=some (lst true [.agg ⟨[.int .i64 a,.int .i64 b,.int .i64 c,.int .i64 d]⟩],h) :=
 (build_lit' (n:=1) (l:=[(0,.agg ⟨[.int .i64 a,.int .i64 b,.int .i64 c,.int .i64 d]⟩)]) rfl rfl (by decide) (by decide) (by decide)).trans rfl
theorem app_prb {h:Heap} {b lo:Nat} {c:List Prb} (s:Prb) (hob:h[b]?=some (prR.row tQ c)) (hlo:lo≤b) (hc:c.length≤10000000) :
  appendT (some ⟨tQ,4,32,.agg ⟨[.int .i64 0,.int .i64 0,.int .i64 0,.int .i64 0]⟩,⟨some true,some 4⟩⟩) h lo false (prR.sl b c) (lst true [.agg ⟨[.int .i64 s.1,.int .i64 s.2.1,.int .i64 s.2.2.1,.int .i64 s.2.2.2]⟩])=some (prR.sl b (c++[s]),h.set b (prR.row tQ (c++[s]))) :=
 Rec.app (R:=prR) (m:=[s]) rfl hob (Rec.cells_tree (R:=prR) rfl [s]) hlo (by show (c.length+1) * 32≤2 ^ 47;omega)
abbrev aC:AObj:=.cells 137 [.map (some 0)] 0
abbrev lC (e:LotD):AObj:=.cells 34 e.val 0
abbrev rC4 (r:Int × Int × Int × Int):AObj:=.cells 56 [.int .i64 r.1,.int .i64 r.2.1,.int .i64 r.2.2.1,.int .i64 r.2.2.2] 0
theorem tabP_of:∀ (T:List ((Int × Int) × Int)) (i:Nat),tabP (ents pairK (tabM T) i)=some T
 | [],_=>rfl
 | ((a,b),n) :: T,i=>by
  show (tabP (ents pairK (tabM T) (i+1))).map _=_
  rw [tabP_of T (i+1)];rfl
theorem prD_of:∀ l:List Prb,prD (prR.flat l)=some l
 | []=>rfl
 | (a,b,c,d) :: l=>by
  show (prD (prR.flat l)).map _=_
  rw [prD_of l];rfl
theorem insP_len (T:List ((Int × Int) × Int)) (x:Prb):∀ l,(insP T x l).length=l.length+1
 | []=>rfl
 | y :: l=>by
  unfold insP
  split
  ·rw [List.length_cons,insP_len T x l,List.length_cons]
  ·rfl
theorem srtP_len (T:List ((Int × Int) × Int)):∀ l,(srtP T l).length=l.length
 | []=>rfl
 | x :: l=>by
  show (insP T x (srtP T l)).length=_
  rw [insP_len,srtP_len T l];rfl
theorem sort_prb {h:Heap} {lo p:Nat} {t:TypeId} {T:List ((Int × Int) × Int)} {l:List Prb} (hob:h[2]?=some (prR.row tQ l)) (hp:h[p]?=some (.cells t [.func (.func 94) ⟨[]⟩ ⟨[.pointer (some ⟨1,0,none⟩)]⟩] 0))
  (ha:h[1]?=some aC) (hm:h[0]?=some (mapB pairK (tabM T))) (hlo:lo≤2) (hl:l.length≤10000000) :
  L E 95 [prR.sl 2 l,.func (.func 96) ⟨[]⟩ ⟨[.pointer (some ⟨p,0,none⟩)]⟩] h lo=some (.tuple #[],h.set 2 (prR.row tQ (srtP T l))):=by
 rw [L_orc (g:=inP 96 94) rfl]
 unfold Rec.sl inP
 simp only [Nat.le_refl,and_true,if_true]
 by_cases h0:l.length=0
 ·have e:l=[]:=List.eq_nil_of_length_eq_zero h0
  subst e
  rw [if_pos h0]
  have:h.set 2 (prR.row tQ (srtP T []))=h:=set_same hob
  rw [this]
 ·rw [if_neg h0,hob]
  unfold inCR Rec.row
  have e1:(prR.flat l).take (l.length * 4)=prR.flat l:=List.take_of_length_le (by rw [Rec.flat_len];exact Nat.le_refl _)
  have e2:(prR.flat l).drop (l.length * 4)=[]:=List.drop_eq_nil_of_le (by rw [Rec.flat_len];exact Nat.le_refl _)
  have e3:prbF 94 (.pointer (some ⟨p,0,none⟩)) h (prR.flat l)=some (prR.flat (srtP T l)):=by
   unfold prbF
   simp only [hp,ha,hm]
   rw [if_pos ⟨trivial,by simp [plainA],by simp [plainA]⟩]
   show ((tabP (ents pairK (tabM T) 0)).bind _)=_
   rw [tabP_of]
   show (prD (prR.flat l)).map _=_
   rw [prD_of];rfl
  have e4:stampOk (some (l.length * (prR.m+1))) (prR.m+1) (prR.flat l).length=true:=by
   rw [Rec.flat_len]
   simp [stampOk]
  simp only [e1,e2,e3,Option.bind_some,List.append_nil]
  rw [if_pos ⟨hlo,e4,trivial,by rw [Rec.flat_len];exact Nat.le_refl _,by omega⟩]
theorem fmn:flat (.map none)=true:=rfl
theorem fnf:flat Value.nilFunc=true:=rfl
theorem cnf:cellsOf Value.nilFunc=some [Value.nilFunc]:=rfl
theorem cmn (o:Option Nat):cellsOf (.map o)=some [.map o]:=by cases o <;> rfl
theorem probes_pure (x:Bool) (land:List LotD) (bok:LotD→Nat→Bool) (bAr:LotD→Nat→Int) (bR:LotD→Nat→Int × Int × Int × Int)
  (hl:land.length≤1000) (hk:∀ e∈land,e.ok)
  (hb:∀ e∈land,∀ k:Nat,k<21→pureCall E.P (L E) 93 [.agg ⟨e.val⟩,.int .i64 (k:Int)]=some (.tuple ⟨[.agg ⟨[.int .i64 (bR e k).1,.int .i64 (bR e k).2.1,.int .i64 (bR e k).2.2.1,.int .i64 (bR e k).2.2.2]⟩,.bool (bok e k)]⟩))
  (ha:∀ e∈land,∀ k:Nat,k<21→bok e k=true→pureCall E.P (L E) 72 [.agg ⟨[.int .i64 (bR e k).1,.int .i64 (bR e k).2.1,.int .i64 (bR e k).2.2.1,.int .i64 (bR e k).2.2.2]⟩]=some (.int .i64 (bAr e k))) :
  ∃ w,pureCall E.P (L E) 33 [lst x (land.map fun e=>.agg ⟨e.val⟩)]=some (lst w (prR.vals (prbA bok bAr land))):=by
 have ll:∀ h,lenT .sl h (lst x (land.map fun e=>.agg ⟨e.val⟩))=some (.int .i64 land.length):=fun h=>by rw [len_lst,List.length_map]
 have il:∀ (j:Nat) (hj:j<land.length),indexAddrT (.sl 34 ⟨some true,some 4⟩) (lst x (land.map fun e=>.agg ⟨e.val⟩)) (.int .i64 (j:Int))=some (cptr (.agg ⟨land[j].val⟩)):=fun j hj=>by
  have e:(land.map fun e=>(Value.agg ⟨e.val⟩))[j]?=some (.agg ⟨land[j].val⟩):=by simp [hj]
  rw [index_lst,if_pos (by omega),show ((j:Int)).toNat=j by omega,e,Option.bind_some,if_pos]
  have:fitsTT ⟨some true,some 4⟩ (.agg ⟨land[j].val⟩)=true:=fits_ag rfl
  rw [this];rfl
 rw [pureCall_fn F33 rfl]
 unfold prbA
 generalize hVL:lst x (land.map fun e=>.agg ⟨e.val⟩)=VL at *
 simp -implicitDefEqProofs [r33,p33,prep_new,newK_nil zQ,ll,fmn,cmn]
 rw [LL_for (γ:=List Int × List ((Int × Int) × Int) × List Prb) land ([],[],[]) (fun i c=>[(3,prR.sl 2 c.2.2),(17,.int .i64 i)]) (fun i c=>[mapB pairK (tabM c.2.1),aC,prR.row tQ c.2.2,mapB (Value.int .i64) (seenZ c.1)])
  (fun i rest c=>(.exit 0,[(3,prR.sl 2 (goL bok bAr rest c).2.2),(17,undef)],[mapB pairK (tabM (goL bok bAr rest c).2.1),aC,prR.row tQ (goL bok bAr rest c).2.2,mapB (Value.int .i64) (seenZ (goL bok bAr rest c).1)]))
  (fun i c=>c.2.2.length≤1512 * i) (by omega) (by simp)]
 ·have hgl:=goL_len bok bAr land ([],[],[])
  rw [List.length_nil] at hgl
  generalize goL bok bAr land ([],[],[])=c at *
  have so:=sort_prb (h:=[mapB pairK (tabM c.2.1),aC,prR.row tQ c.2.2,mapB (Value.int .i64) (seenZ c.1),.cells 142 [.func (.func 94) ⟨[]⟩ ⟨[.pointer (some ⟨1,0,none⟩)]⟩] 0]) (lo:=0) (p:=4) rfl rfl rfl rfl (by omega) (by omega:c.2.2.length≤10000000)
  have so:L E 95 [prR.sl 2 c.2.2,.func (.func 96) #[] #[.pointer (some ⟨4,0,none⟩)]] [mapB pairK (tabM c.2.1),aC,prR.row tQ c.2.2,mapB (Value.int .i64) (seenZ c.1),.cells 142 [.func (.func 94) #[] #[.pointer (some ⟨1,0,none⟩)]] 0] 0=_:=so
  have e1:prR.sl 2 c.2.2=prR.sl 2 (srtP c.2.1 c.2.2):=by unfold Rec.sl;rw [srtP_len]
  simp -implicitDefEqProofs [k33_5,so,fnf,cnf,ret2 (E:=E) (f:=95) rfl]
  generalize srtP c.2.1 c.2.2=sl at *
  rw [e1]
  exact Or.inl (Rec.reifyR_row rfl zQ aQ)
 ·simp -implicitDefEqProofs [k33_5,Rec.sl_nil]
 ·rfl
 ·intro nx i c hi _
  have e0:goL bok bAr [] c=c:=rfl
  simp -implicitDefEqProofs [r33_5,k33_5,hi,trim_le,e0]
 ·intro nx i e rest c hi hv hd hw hI ih
  obtain ⟨S,T,O⟩:=c
  have hI:O.length≤1512 * i:=hI
  have xi:=il i hi
  rw [hv] at xi
  have hm:e∈land:=hv ▸ List.getElem_mem hi
  have hb:=hb e hm
  have ha:=ha e hm
  obtain ⟨k1,k2,hst⟩:=hk e hm
  have sg:=seenZ_get S e.id
  have hn:i+1≤1000:=by omega
  have e1:goL bok bAr (e :: rest) (S,T,O)=goL bok bAr rest (if memZ S e.id || decide (e.id<0) || decide (1073741824<e.id) then (S,T,O) else (S++[e.id],goI bok bAr e (List.range 21) (T,O))):=rfl
  rw [e1]
  have bT:∀ n T,belowO n (mapB pairK (tabM T))=true:=fun n T=>belO_map prK fun q hq=>by
   obtain ⟨s,_,rfl⟩:=List.mem_map.1 hq;rfl
  have bS:∀ n S,belowO n (mapB (Value.int .i64) (seenZ S))=true:=fun n S=>belO_map intK fun q hq=>by
   obtain ⟨s,_,rfl⟩:=List.mem_map.1 hq;rfl
  have bO:∀ n O,belowO n (prR.row tQ O)=true:=fun n O=>Rec.row_bel _
  have bA:∀ n,0<n→belowO n aC=true:=fun n h=>by show ([_]:List Value).all (below 8 n)=true;rw [List.all_cons,List.all_nil,Bool.and_true];exact decide_eq_true h
  have bs:∀ d n O,2<n→below (d+1) n (prR.sl 2 O)=true:=fun d n O h=>Rec.sl_bel h
  have bV:∀ d n,below (d+1) n VL=true:=fun d n=>by rw [← hVL];rfl
  have bm0:∀ d n,0<n→below (d+1) n (.map (some 0))=true:=fun d n h=>decide_eq_true h
  have bm3:∀ d n,3<n→below (d+1) n (.map (some 3))=true:=fun d n h=>decide_eq_true h
  obtain ⟨id,ow,ar,fr⟩:=e
  simp only [LotD.val] at *
  have bL:∀ n,belowO n (lC ⟨id,ow,ar,fr⟩)=true:=fun n=>by show ([_,_,_,_]:List Value).all (below 8 n)=true;simp only [List.all_cons,List.all_nil,k1,k2,bel_int,Bool.and_self]
  have bD:∀ n,below 8 n (.agg #[.int .i64 id,.int .i64 ow,ar,fr])=true:=fun n=>by show ([_,_,_,_]:List Value).all (below 7 n)=true;simp only [List.all_cons,List.all_nil,k1,k2,bel_int,Bool.and_self]
  have sInt:∀ k z,settled depth (.int k z)=true:=fun k z=>rfl
  have hst':settled depth (.agg #[.int .i64 id,.int .i64 ow,ar,fr])=true:=hst
  cases hs:(memZ S id || decide (id<0) || decide (1073741824<id))
  case true =>
   have ih:=ih (S,T,O) (by show O.length≤_;omega)
   rw [if_pos rfl]
   simp only at ih ⊢
   generalize goL bok bAr rest (S,T,O)=G at *
   simp -implicitDefEqProofs [k33_5] at ih
   cases hmS:memZ S id
   ·rw [hmS] at sg hs
    rw [Bool.false_or] at hs
    have lk:=fun h (hob:h[3]?=some (mapB (Value.int .i64) (seenZ S)))=>lookup_none (P:=E.P) (kt:=3) (enc:=Value.int .i64) (ok:=false) (k:=id) (zv:=.bool false) intK rfl hob sg
    by_cases h0:id<0
    ·have h0':¬ 0≤id:=by omega
     simp -implicitDefEqProofs [r33_5,k33_5,hi,xi,lk,hw,trim_cut,ih,bT,bS,bO,bA,bs,bV,bm0,bm3,h0]
    ·have h1:1073741824<id:=by simpa [h0] using hs
     have h0':0≤id:=by omega
     simp -implicitDefEqProofs [r33_5,k33_5,hi,xi,lk,hw,trim_cut,ih,bT,bS,bO,bA,bs,bV,bm0,bm3,h0,h1]
   ·rw [hmS] at sg
    have lk:=fun h (hob:h[3]?=some (mapB (Value.int .i64) (seenZ S)))=>lookup_some (P:=E.P) (kt:=3) (enc:=Value.int .i64) (ok:=false) (k:=id) (z:=some (.bool false)) intK rfl hob sg
    simp -implicitDefEqProofs [r33_5,k33_5,hi,xi,lk,hw,trim_cut,ih,bT,bS,bO,bA,bs,bV,bm0,bm3]
  case false =>
   have hgi:=goI_len bok bAr ⟨id,ow,ar,fr⟩ (List.range 21) (T,O)
   rw [List.length_range] at hgi
   have ih:=ih (S++[id],goI bok bAr ⟨id,ow,ar,fr⟩ (List.range 21) (T,O)) (by refine Nat.le_trans hgi ?_;show O.length+72 * 21≤1512 * (i+1);omega)
   rw [if_neg (by decide)]
   simp only at ih ⊢
   simp only [Bool.or_eq_false_iff,decide_eq_false_iff_not] at hs
   obtain ⟨⟨hmS,h0⟩,h1⟩:=hs
   have h0':0≤id:=by omega
   have h1':id≤1073741824:=by omega
   rw [hmS] at sg
   have lk:=fun h (hob:h[3]?=some (mapB (Value.int .i64) (seenZ S)))=>lookup_none (P:=E.P) (kt:=3) (enc:=Value.int .i64) (ok:=false) (k:=id) (zv:=.bool false) intK rfl hob sg
   have pt:=fun h (hob:h[3]?=some (mapB (Value.int .i64) (seenZ S)))=>put_map (P:=E.P) (kt:=3) (enc:=Value.int .i64) (z:=some (.bool false)) (lo:=0) (k:=id) (x:=.bool true) intK hob (Nat.zero_le _)
   rw [aset_new sg,← seenZ_app] at pt
   generalize S++[id]=S' at *
   obtain ⟨G,hG⟩:∃ G,goI bok bAr ⟨id,ow,ar,fr⟩ (List.range 21) (T,O)=G:=⟨_,rfl⟩
   rw [hG] at ih hgi ⊢
   generalize goL bok bAr rest (S',G)=GL at *
   simp -implicitDefEqProofs [k33_5] at ih
   generalize hX:nx _ _=X at ih
   simp -implicitDefEqProofs [r33_5,k33_5,hi,xi,lk,pt,h0,h1]
   rw [LL_for (γ:=List ((Int × Int) × Int) × List Prb) (List.range 21) (T,O) (fun i c=>[(3,prR.sl 2 c.2),(38,.int .i64 i)]) (fun i c=>[mapB pairK (tabM c.1),aC,prR.row tQ c.2,mapB (Value.int .i64) (seenZ S'),lC ⟨id,ow,ar,fr⟩])
    (fun i rest c=>(.exit 2,[(3,prR.sl 2 (goI bok bAr ⟨id,ow,ar,fr⟩ rest c).2),(38,undef)],[mapB pairK (tabM (goI bok bAr ⟨id,ow,ar,fr⟩ rest c).1),aC,prR.row tQ (goI bok bAr ⟨id,ow,ar,fr⟩ rest c).2,mapB (Value.int .i64) (seenZ S'),lC ⟨id,ow,ar,fr⟩]))
    (fun i c=>c.2.length≤1512000+72 * i) (by decide) (by show O.length≤_;omega)]
   ·rw [hG]
    simp -implicitDefEqProofs [k33_10,hw,trim_cut,bT,bS,bO,bA,bs,bV,bm0,bm3]
    exact hX.trans ih
   ·simp -implicitDefEqProofs [k33_10]
   ·rfl
   ·intro ny j c hj _
    have e0:goI bok bAr ⟨id,ow,ar,fr⟩ [] c=c:=rfl
    have hj:j=21:=by rw [List.length_range] at hj;exact hj
    subst hj
    simp -implicitDefEqProofs [r33_10,k33_10,trim_le,e0]
   ·intro ny j w rs c hj hvj hdj hwj hIj ihj
    have hj':j<21:=by rw [List.length_range] at hj;exact hj
    have hw2:w=j:=by rw [← hvj,List.getElem_range]
    subst hw2
    obtain ⟨T1,O1⟩:=c
    have hIj:O1.length≤1512000+72 * w:=hIj
    have hbj:=hb w hj'
    have haj:=ha w hj'
    obtain ⟨⟨r0,r1,r2,r3⟩,hR⟩:∃ r,bR ⟨id,ow,ar,fr⟩ w=r:=⟨_,rfl⟩
    rw [hR] at hbj haj
    have lj:((w:Int)<21):=by omega
    have e1:goI bok bAr ⟨id,ow,ar,fr⟩ (w :: rs) (T1,O1)=goI bok bAr ⟨id,ow,ar,fr⟩ rs (if bok ⟨id,ow,ar,fr⟩ w then (asetI T1 (id,(w:Int)) (bAr ⟨id,ow,ar,fr⟩ w),O1++prbs id w (List.range 72)) else (T1,O1)):=rfl
    rw [e1]
    cases hok:bok ⟨id,ow,ar,fr⟩ w
    ·rw [hok] at hbj
     have ihj:=ihj (T1,O1) (by show O1.length≤_;omega)
     rw [if_neg (by decide)]
     generalize goI bok bAr ⟨id,ow,ar,fr⟩ rs (T1,O1)=G1 at *
     simp -implicitDefEqProofs [k33_10] at ihj
     simp -implicitDefEqProofs [r33_10,k33_10,hwj,lj,hbj,LotD.val,ret1 m93,hst',sInt,bL,bD,trim_cut,bT,bS,bO,bA,bs,bV,bm0,bm3,-List.all_eq_true,ihj]
    ·rw [hok] at hbj
     have haj:=haj hok
     have hO:(prbs id w (List.range 72)).length=72:=by unfold prbs;rw [List.length_map,List.length_range]
     have ihj:=ihj (asetI T1 (id,(w:Int)) (bAr ⟨id,ow,ar,fr⟩ w),O1++prbs id w (List.range 72)) (by show (O1++prbs id w (List.range 72)).length≤_;rw [List.length_append,hO];omega)
     rw [if_pos rfl]
     have pt:=fun h (hob:h[0]?=some (mapB pairK (tabM T1)))=>put_map (P:=E.P) (kt:=tK) (enc:=pairK) (z:=some (.int .i64 0)) (lo:=0) (k:=(id,(w:Int))) (x:=.int .i64 (bAr ⟨id,ow,ar,fr⟩ w)) prK hob (Nat.zero_le _)
     rw [tabM_set] at pt
     generalize bAr ⟨id,ow,ar,fr⟩ w=aw at *
     generalize asetI T1 (id,(w:Int)) aw=T2 at *
     have ba2:buildT (.arr ⟨[.int .i64 0,.int .i64 0]⟩ 1) #[(0,.int .i64 id),(1,.int .i64 (w:Int))]=some (pairK (id,(w:Int))):=rfl
     have fz:flat (Value.int .i64 aw)=true:=rfl
     generalize goI bok bAr ⟨id,ow,ar,fr⟩ rs (T2,O1++prbs id w (List.range 72))=G1 at *
     simp -implicitDefEqProofs [k33_10] at ihj
     simp -implicitDefEqProofs [r33_10,k33_10,lj,hbj,haj,LotD.val,ret1 m93,hst',sInt,ret0 m72,ba2,pt]
     rw [LL_for (γ:=List Prb) (List.range 72) O1 (fun i c=>[(3,prR.sl 2 c),(56,.int .i64 i)]) (fun i c=>[mapB pairK (tabM T2),aC,prR.row tQ c,mapB (Value.int .i64) (seenZ S'),lC ⟨id,ow,ar,fr⟩,rC4 (r0,r1,r2,r3)])
      (fun i rest c=>(.exit 4,[(3,prR.sl 2 (c++prbs id w rest)),(56,undef)],[mapB pairK (tabM T2),aC,prR.row tQ (c++prbs id w rest),mapB (Value.int .i64) (seenZ S'),lC ⟨id,ow,ar,fr⟩,rC4 (r0,r1,r2,r3)]))
      (fun i c=>c.length≤1514000+i) (by decide) (by omega)]
     ·simp -implicitDefEqProofs [k33_16,hwj,bL,bD,trim_cut,bT,bS,bO,bA,bs,bV,bm0,bm3,-List.all_eq_true,ihj]
     ·simp -implicitDefEqProofs [k33_16]
     ·rfl
     ·intro nz m c hm2 _
      have hm2:m=72:=by rw [List.length_range] at hm2;exact hm2
      subst hm2
      have e0:c++prbs id w []=c:=List.append_nil _
      simp -implicitDefEqProofs [r33_16,k33_16,trim_le,e0]
     ·intro nz m v2 rs2 c hm2 hv2 hd2 hw2 hc2 ih2
      have hm3:m<72:=by rw [List.length_range] at hm2;exact hm2
      have hv3:v2=m:=by rw [← hv2,List.getElem_range]
      subst hv3
      have ih2:=ih2 (c++[(id,((v2 % 6:Nat):Int),((v2 / 6:Nat):Int)+1,(w:Int))]) (by rw [List.length_append];show c.length+1≤_;omega)
      have e0:c++prbs id w (v2 :: rs2)=(c++[(id,((v2 % 6:Nat):Int),((v2 / 6:Nat):Int)+1,(w:Int))])++prbs id w rs2:=by rw [List.append_assoc];rfl
      have ap:=fun h (hob:h[2]?=some (prR.row tQ c))=>app_prb (b:=2) (lo:=0) (id,((v2 % 6:Nat):Int),((v2 / 6:Nat):Int)+1,(w:Int)) hob (Nat.zero_le _) (by omega)
      rw [e0]
      simp only at ap
      have rm:aBin E.P .rem 3 (.int .i64 (v2:Int)) (.int .i64 6)=some (.int .i64 ((v2 % 6:Nat):Int)):=(bin_rem (by decide)).trans rfl
      have qo:aBin E.P .quo 3 (.int .i64 (v2:Int)) (.int .i64 6)=some (.int .i64 ((v2 / 6:Nat):Int)):=by rw [bin_quo (by decide),show (v2:Int).tdiv 6=((v2 / 6:Nat):Int) from rfl,wrap64 (by omega) (by omega)]
      have hd6:v2 / 6≤11:=by omega
      have hw6:IntKind.i64.wrap (((v2 / 6:Nat):Int)+1)=((v2 / 6:Nat):Int)+1:=wrap64 (by omega) (by omega)
      generalize v2 % 6=m6 at *
      generalize v2 / 6=d6 at *
      generalize c++[(id,((m6:Nat):Int),((d6:Nat):Int)+1,(w:Int))]=c2 at *
      generalize c2++prbs id w rs2=c3 at *
      simp -implicitDefEqProofs [k33_16] at ih2
      have l72:(v2:Int)<72:=by omega
      simp -implicitDefEqProofs [r33_16,k33_16,hw2,l72,LotD.val,rm,qo,hw6,bld4,lit_prb,ap,trim_le]
      exact ih2
end Go.Proofs.YtplebjehcgcdeaaGreatDoor.Bm
namespace Go.Proofs.YtplebjehcgcdeaaGreatDoor.Bm
open Go Go.RowKit
def exL:LotD:=⟨3,0,lst true [rV 0 0 5 4],.slice none 0 0⟩
def exB (k:Nat):Int × Int × Int × Int:=if k=0 then (0,0,5,4) else if k=1 then (1,1,4,3) else (0,0,0,0)
theorem ex_base:∀ k:Nat,k<21→pureCall E.P (L E) 93 [.agg ⟨exL.val⟩,.int .i64 (k:Int)]=some (.tuple ⟨[.agg ⟨[.int .i64 (exB k).1,.int .i64 (exB k).2.1,.int .i64 (exB k).2.2.1,.int .i64 (exB k).2.2.2]⟩,.bool (decide (k<2))]⟩)
 | 0,_=>ex_base0
 | 1,_=>ex_base1
 | 2,_=>ex_base2
 | 3,_=>ex_base3
 | 4,_=>ex_base4
 | 5,_=>ex_base5
 | 6,_=>ex_base6
 | 7,_=>ex_base7
 | 8,_=>ex_base8
 | 9,_=>ex_base9
 | 10,_=>ex_base10
 | 11,_=>ex_base11
 | 12,_=>ex_base12
 | 13,_=>ex_base13
 | 14,_=>ex_base14
 | 15,_=>ex_base15
 | 16,_=>ex_base16
 | 17,_=>ex_base17
 | 18,_=>ex_base18
 | 19,_=>ex_base19
 | 20,_=>ex_base20
 | k+21,h=>absurd h (by omega)
theorem ex_area:∀ k:Nat,k<21→decide (k<2)=true→pureCall E.P (L E) 72 [.agg ⟨[.int .i64 (exB k).1,.int .i64 (exB k).2.1,.int .i64 (exB k).2.2.1,.int .i64 (exB k).2.2.2]⟩]=some (.int .i64 (if k=0 then 20 else 6))
 | 0,_,_=>ex_area0
 | 1,_,_=>ex_area1
 | k+2,_,h=>absurd (of_decide_eq_true h) (by omega)
theorem ex_len:(prbA (fun _ k=>decide (k<2)) (fun _ k=>if k=0 then 20 else 6) [exL]).length=144:=by
 unfold prbA
 rw [srtP_len]
 kernel_rfl
theorem ex_probes:∃ w l,pureCall E.P (L E) 33 [lst true [loV 3 (rV 0 0 5 4)]]=some (lst w l)∧l.length=144:=by
 obtain ⟨w,h⟩:=probes_pure true [exL] (fun _ k=>decide (k<2)) (fun _ k=>if k=0 then 20 else 6) (fun _ k=>exB k) (by decide)
  (fun e he=>by rw [List.mem_singleton] at he;subst he;exact ⟨fun _ _=>rfl,fun _ _=>rfl,rfl⟩)
  (fun e he k hk=>by rw [List.mem_singleton] at he;subst he;exact ex_base k hk)
  (fun e he k hk hb=>by rw [List.mem_singleton] at he;subst he;exact ex_area k hk hb)
 exact ⟨w,_,h,by rw [Rec.vals_len];exact ex_len⟩
open Dw (Vol Ent Phs Drw readF formB)
theorem lit_rc (h:Heap) (a b c d:Int):buildSliceT (some ⟨56,4,32,.agg ⟨[.int .i64 0,.int .i64 0,.int .i64 0,.int .i64 0]⟩,⟨some true,some 4⟩⟩) false h 1 #[(0,.agg ⟨[.int .i64 a,.int .i64 b,.int .i64 c,.int .i64 d]⟩)]=some (lst true [rV a b c d],h) :=
 (build_lit' (n:=1) (l:=[(0,.agg ⟨[.int .i64 a,.int .i64 b,.int .i64 c,.int .i64 d]⟩)]) rfl rfl (by decide) (by decide) (by decide)).trans rfl
theorem bLot (z:Int) (l:List Value):buildT (.fs ⟨[.int .i64 0,.int .i64 0,.slice none 0 0,.slice none 0 0]⟩ ⟨[(0,1),(1,1),(2,1),(3,1)]⟩) #[(0,.int .i64 z),(2,lst true l)]=some (.agg #[.int .i64 z,.int .i64 0,lst true l,.slice none 0 0]):=by kernel_rfl
theorem bCap:buildT (.fs ⟨[.string ⟨⟨[]⟩⟩,.int .i64 0,.int .i64 0,.slice none 0 0]⟩ ⟨[(0,1),(1,1),(2,1),(3,1)]⟩) #[(0,.string ⟨⟨[114,111,97,100,115]⟩⟩)]=some (.agg #[.string ⟨⟨[114,111,97,100,115]⟩⟩,.int .i64 0,.int .i64 0,.slice none 0 0]):=by kernel_rfl
theorem lit_cap (h:Heap):buildSliceT (some ⟨81,4,56,.agg ⟨[.string ⟨⟨[]⟩⟩,.int .i64 0,.int .i64 0,.slice none 0 0]⟩,⟨some true,some 4⟩⟩) false h 1 #[(0,.agg #[.string ⟨⟨[114,111,97,100,115]⟩⟩,.int .i64 0,.int .i64 0,.slice none 0 0])]=some (capV,h) :=
 (build_lit' (n:=1) (l:=[(0,.agg ⟨[.string ⟨⟨[114,111,97,100,115]⟩⟩,.int .i64 0,.int .i64 0,.slice none 0 0]⟩)]) rfl rfl (by decide) (by decide) (by decide)).trans rfl
theorem bPl1:buildT (.fs ⟨[.slice none 0 0,.slice none 0 0,.slice none 0 0,.slice none 0 0,.slice none 0 0,.slice none 0 0,.slice none 0 0,.int .i64 0]⟩ ⟨[(0,1),(1,1),(2,1),(3,1),(4,1),(5,1),(6,1),(7,1)]⟩) #[(4,capV)]=some (.agg #[.slice none 0 0,.slice none 0 0,.slice none 0 0,.slice none 0 0,capV,.slice none 0 0,.slice none 0 0,.int .i64 0]):=by kernel_rfl
theorem bPl0:buildT (.fs ⟨[.slice none 0 0,.slice none 0 0,.slice none 0 0,.slice none 0 0,.slice none 0 0,.slice none 0 0,.slice none 0 0,.int .i64 0]⟩ ⟨[(0,1),(1,1),(2,1),(3,1),(4,1),(5,1),(6,1),(7,1)]⟩) #[]=some (.agg #[.slice none 0 0,.slice none 0 0,.slice none 0 0,.slice none 0 0,.slice none 0 0,.slice none 0 0,.slice none 0 0,.int .i64 0]):=by kernel_rfl
theorem bVo0:buildT (.fs ⟨[.int .i64 0,.int .i64 0,.int .i64 0,.int .i64 0,.int .i64 0,.int .i64 0,.int .i64 0,.int .i64 0,.bool false]⟩ ⟨[(0,6),(6,1),(7,1),(8,1)]⟩) #[]=some (.agg #[.int .i64 0,.int .i64 0,.int .i64 0,.int .i64 0,.int .i64 0,.int .i64 0,.int .i64 0,.int .i64 0,.bool false]):=by kernel_rfl
theorem bVo1:buildT (.fs ⟨[.int .i64 0,.int .i64 0,.int .i64 0,.int .i64 0,.int .i64 0,.int .i64 0,.int .i64 0,.int .i64 0,.bool false]⟩ ⟨[(0,6),(6,1),(7,1),(8,1)]⟩) #[(0,.agg #[.int .i64 1,.int .i64 1,.int .i64 4,.int .i64 3,.int .i64 0,.int .i64 6]),(1,.int .i64 1)]=some (.agg #[.int .i64 1,.int .i64 1,.int .i64 4,.int .i64 3,.int .i64 0,.int .i64 6,.int .i64 1,.int .i64 0,.bool false]):=by kernel_rfl
theorem lit_v1 (h:Heap):buildSliceT (some ⟨60,9,72,.agg ⟨[.int .i64 0,.int .i64 0,.int .i64 0,.int .i64 0,.int .i64 0,.int .i64 0,.int .i64 0,.int .i64 0,.bool false]⟩,⟨some true,some 9⟩⟩) false h 1 #[(0,.agg #[.int .i64 1,.int .i64 1,.int .i64 4,.int .i64 3,.int .i64 0,.int .i64 6,.int .i64 1,.int .i64 0,.bool false])]=some (lst true [.agg #[.int .i64 1,.int .i64 1,.int .i64 4,.int .i64 3,.int .i64 0,.int .i64 6,.int .i64 1,.int .i64 0,.bool false]],h) :=
 (build_lit' (n:=1) (l:=[(0,.agg #[.int .i64 1,.int .i64 1,.int .i64 4,.int .i64 3,.int .i64 0,.int .i64 6,.int .i64 1,.int .i64 0,.bool false])]) rfl rfl (by decide) (by decide) (by decide)).trans rfl
theorem bPh:buildT (.fs ⟨[.slice none 0 0,.slice none 0 0]⟩ ⟨[(0,1),(1,1)]⟩) #[(0,lst true [.agg #[.int .i64 1,.int .i64 1,.int .i64 4,.int .i64 3,.int .i64 0,.int .i64 6,.int .i64 1,.int .i64 0,.bool false]])]=some (.agg #[lst true [.agg #[.int .i64 1,.int .i64 1,.int .i64 4,.int .i64 3,.int .i64 0,.int .i64 6,.int .i64 1,.int .i64 0,.bool false]],.slice none 0 0]):=by kernel_rfl
theorem lit_p1 (h:Heap):buildSliceT (some ⟨78,2,48,.agg ⟨[.slice none 0 0,.slice none 0 0]⟩,⟨some true,some 2⟩⟩) false h 1 #[(0,.agg #[lst true [.agg #[.int .i64 1,.int .i64 1,.int .i64 4,.int .i64 3,.int .i64 0,.int .i64 6,.int .i64 1,.int .i64 0,.bool false]],.slice none 0 0])]=some (lst true [.agg #[lst true [.agg #[.int .i64 1,.int .i64 1,.int .i64 4,.int .i64 3,.int .i64 0,.int .i64 6,.int .i64 1,.int .i64 0,.bool false]],.slice none 0 0]],h) :=
 (build_lit' (n:=1) (l:=[(0,.agg ⟨[lst true [.agg #[.int .i64 1,.int .i64 1,.int .i64 4,.int .i64 3,.int .i64 0,.int .i64 6,.int .i64 1,.int .i64 0,.bool false]],.slice none 0 0]⟩)]) rfl rfl (by decide) (by decide) (by decide)).trans rfl
theorem bDr:buildT (.fs ⟨[.int .i64 0,.slice none 0 0]⟩ ⟨[(0,1),(1,1)]⟩) #[(0,.int .i64 3),(1,lst true [.agg #[lst true [.agg #[.int .i64 1,.int .i64 1,.int .i64 4,.int .i64 3,.int .i64 0,.int .i64 6,.int .i64 1,.int .i64 0,.bool false]],.slice none 0 0]])]=some (.agg #[.int .i64 3,prbP]):=by kernel_rfl
theorem lit_l1 (h:Heap):buildSliceT (some ⟨34,4,64,.agg ⟨[.int .i64 0,.int .i64 0,.slice none 0 0,.slice none 0 0]⟩,⟨some true,some 4⟩⟩) false h 1 #[(0,.agg #[.int .i64 3,.int .i64 0,lst true [rV 0 0 5 4],.slice none 0 0])]=some (lst true [.agg #[.int .i64 3,.int .i64 0,lst true [rV 0 0 5 4],.slice none 0 0]],h) :=
 (build_lit' (n:=1) (l:=[(0,.agg ⟨[.int .i64 3,.int .i64 0,lst true [rV 0 0 5 4],.slice none 0 0]⟩)]) rfl rfl (by decide) (by decide) (by decide)).trans rfl
theorem small_pure:pureCall E.P (L E) 11 []=some (.bool true):=by
 have e6:pureCall E.P (L E) 47 [.int .i64 6]=some (.agg #[.int .i64 7,exP 6]):=ex_6
 have e5:pureCall E.P (L E) 47 [.int .i64 5]=some (.agg #[.int .i64 7,exP 5]):=ex_5
 have f6:pureCall E.P (L E) 21 [.agg #[.int .i64 7,exP 6]]=some (.bool true):=ex_form6
 have f5:pureCall E.P (L E) 21 [.agg #[.int .i64 7,exP 5]]=some (.bool false):=ex_form5
 have b6:pureCall E.P (L E) 13 [.agg #[.int .i64 7,exP 6]]=some (.tuple #[.string ⟨⟨exS⟩⟩,.int .i64 0]):=ex_bytes
 have so1:pureCall E.P (L E) 15 [.agg #[.int .i64 7,exP 6],.int .i64 0,.int .i64 2]=some (.tuple #[lst false [.agg #[.int .i64 0,.int .i64 9,lst false [rV 2 2 4 5]]],.int .i64 0]):=ex_sol
 have so2:pureCall E.P (L E) 15 [.agg #[.int .i64 7,exP 6],.int .i64 1,.int .i64 9]=some (.tuple #[lst false [.agg #[.int .i64 6,.int .i64 9,lst false [rV 2 2 4 5]]],.int .i64 0]):=ex_sol2
 have sp1:pureCall E.P (L E) 17 [.agg #[.int .i64 7,exP 6],.int .i64 1]=some (.tuple #[.agg #[.int .i64 7,lst false [.agg #[lst false (volR.vals [⟨2,2,4,5,0,6,0,3,false⟩]),.slice none 0 0]]],.agg #[.int .i64 7,lst false [.agg #[lst false (volR.vals [⟨2,2,4,5,6,9,1,0,false⟩]),lst false (entR.vals [([114,111,97,100,115],50)])]]],.bool true]):=ex_split
 have sp2:pureCall E.P (L E) 17 [.agg #[.int .i64 7,exP 6],.int .i64 2]=some (.tuple #[.agg #[.int .i64 0,.slice none 0 0],.agg #[.int .i64 0,.slice none 0 0],.bool false]):=ex_split2
 have sm1:pureCall E.P (L E) 20 [.agg #[.int .i64 7,phR.o (some false) (exD 6).phs],.agg #[.int .i64 7,exP 6]]=some (.bool true):=ex_same
 have sm2:pureCall E.P (L E) 30 [.agg #[.int .i64 7,exP 6],.agg #[.int .i64 7,exP 6]]=some (.bool true):=ex_same2
 have rv:pureCall E.P (L E) 28 [.agg #[.int .i64 0,.int .i64 0,.int .i64 0,.int .i64 0,.int .i64 0,.int .i64 0,.int .i64 0,.int .i64 0,.bool false]]=some (.bool false):=ex_rv
 have pr:pureCall E.P (L E) 35 [.agg #[.int .i64 3,.int .i64 0,lst true [rV 0 0 5 4],.slice none 0 0],.agg #[.int .i64 3,.int .i64 1,.int .i64 2,.int .i64 1]]=some (.tuple #[.agg #[.int .i64 3,prbP],.bool true]):=ex_probe
 have sm3:pureCall E.P (L E) 20 [.agg #[.int .i64 3,prbP],.agg #[.int .i64 3,prbP]]=some (.bool true):=ex_same3
 have ri:pureCall E.P (L E) 23 [.agg #[.slice none 0 0,.slice none 0 0,.slice none 0 0,.slice none 0 0,capV,.slice none 0 0,.slice none 0 0,.int .i64 0],.agg #[.int .i64 7,.int .i64 0,lst true [rV 2 2 4 5],.slice none 0 0],.agg #[.int .i64 7,exP 6]]=some (.bool true):=ex_right
 have ri0:pureCall E.P (L E) 23 [.agg #[.slice none 0 0,.slice none 0 0,.slice none 0 0,.slice none 0 0,.slice none 0 0,.slice none 0 0,.slice none 0 0,.int .i64 0],.agg #[.int .i64 7,.int .i64 0,lst true [rV 2 2 4 5],.slice none 0 0],.agg #[.int .i64 7,exP 6]]=some (.bool false):=ex_right0
 have rd:=read_pure exS (by decide)
 rw [ex_readF] at rd
 have rd:pureCall E.P (L E) 31 [.string ⟨⟨exS⟩⟩]=some (.tuple #[.agg #[.int .i64 7,phR.o (some false) (exD 6).phs],.int .i64 0]):=rd
 have rd0:=read_pure [] (by decide)
 rw [ex_readN] at rd0
 have rd0:pureCall E.P (L E) 31 [.string ⟨⟨[]⟩⟩]=some (.tuple #[.agg #[.int .i64 0,.slice none 0 0],.int .i64 2]):=rd0
 obtain ⟨w,pl,pb,pn⟩:=ex_probes
 have pb:pureCall E.P (L E) 33 [lst true [.agg #[.int .i64 3,.int .i64 0,lst true [rV 0 0 5 4],.slice none 0 0]]]=some (lst w pl):=pb
 rw [pureCall_fn F11 rfl]
 have hS:exS=[55,59,50,59,49,59,57,91,50,59,50,59,52,59,53,59,48,59,54,59,48,59,51,59,48,59,93,48,59,49,59,57,91,50,59,50,59,52,59,53,59,54,59,57,59,49,59,48,59,48,59,93,49,59,53,58,114,111,97,100,115,44,53,48,59]:=rfl
 have g6:settled 6 (exP 6)=true∧settled 7 (exP 6)=true∧settled 8 (exP 6)=true:=⟨rfl,rfl,rfl⟩
 have s6:settled depth (.agg #[.int .i64 7,exP 6])=true:=rfl
 have r6:∀ h,reify E.P 8 h (.agg #[.int .i64 7,exP 6])=some (.agg #[.int .i64 7,exP 6]):=fun h=>rfl
 have r5:∀ h,reify E.P 8 h (.agg #[.int .i64 7,exP 5])=some (.agg #[.int .i64 7,exP 5]):=fun h=>rfl
 have rD:∀ h,reify E.P 8 h (.agg #[.int .i64 7,phR.o (some false) (exD 6).phs])=some (.agg #[.int .i64 7,phR.o (some false) (exD 6).phs]):=fun h=>rfl
 have rp:∀ h,reify E.P 8 h (.agg #[.int .i64 3,prbP])=some (.agg #[.int .i64 3,prbP]):=fun h=>rfl
 have sL3:settled depth (.agg #[.int .i64 3,.int .i64 0,lst true [rV 0 0 5 4],.slice none 0 0])=true:=rfl
 have sP3:settled depth (.agg #[.int .i64 3,.int .i64 1,.int .i64 2,.int .i64 1])=true:=rfl
 have bD:=bDr
 have sLs:settled depth (lst true [.agg #[.int .i64 3,.int .i64 0,lst true [rV 0 0 5 4],.slice none 0 0]])=true:=rfl
 have lnP:∀ h,lenT .sl h (lst w pl)=some (.int .i64 144):=fun h=>by rw [len_lst,pn];rfl
 have rP1:∀ h,reify E.P 8 h (.agg #[.slice none 0 0,.slice none 0 0,.slice none 0 0,.slice none 0 0,capV,.slice none 0 0,.slice none 0 0,.int .i64 0])=some (.agg #[.slice none 0 0,.slice none 0 0,.slice none 0 0,.slice none 0 0,capV,.slice none 0 0,.slice none 0 0,.int .i64 0]):=fun h=>rfl
 have rP0:∀ h,reify E.P 8 h (.agg #[.slice none 0 0,.slice none 0 0,.slice none 0 0,.slice none 0 0,.slice none 0 0,.slice none 0 0,.slice none 0 0,.int .i64 0])=some (.agg #[.slice none 0 0,.slice none 0 0,.slice none 0 0,.slice none 0 0,.slice none 0 0,.slice none 0 0,.slice none 0 0,.int .i64 0]):=fun h=>rfl
 have rL7:∀ h,reify E.P 8 h (.agg #[.int .i64 7,.int .i64 0,lst true [rV 2 2 4 5],.slice none 0 0])=some (.agg #[.int .i64 7,.int .i64 0,lst true [rV 2 2 4 5],.slice none 0 0]):=fun h=>rfl
 have rV9:∀ h,reify E.P 8 h (.agg #[.int .i64 0,.int .i64 0,.int .i64 0,.int .i64 0,.int .i64 0,.int .i64 0,.int .i64 0,.int .i64 0,.bool false])=some (.agg #[.int .i64 0,.int .i64 0,.int .i64 0,.int .i64 0,.int .i64 0,.int .i64 0,.int .i64 0,.int .i64 0,.bool false]):=fun h=>rfl
 have sI:∀ k z,settled depth (.int k z)=true:=fun k z=>rfl
 have sS:∀ z,settled depth (.string z)=true:=fun z=>rfl
 generalize exP 6=P6 at *
 generalize exP 5=P5 at *
 generalize phR.o (some false) (exD 6).phs=D6 at *
 generalize prbP=PB at *
 rw [hS] at rd b6
 clear hS
 simp -implicitDefEqProofs [r11,p11,ret1 m47,e6,sI,sS,ret0 m13,b6,r6,-reify_agg,ret1 m31,rd,rd0,ret1 m15,s6,so1,so2,ret1 m17,sp1,sp2,bld4,lit_rc,bLot,bCap,lit_cap,bPl1,bPl0,bVo0,bVo1,ret0 m21,f6,f5,e5,r5,ret0 m20,sm1,rD,ret1 m35,pr,sL3,sP3,bld6,lit_v1,bPh,lit_p1,bD,lit_l1,sm3,rp,ret1 m33,sLs,pb,lnP,ret0 m23,rP1,rP0,rL7,ri,ri0,ret0 m30,sm2,ret0 m28,rv,rV9]
end Go.Proofs.YtplebjehcgcdeaaGreatDoor.Bm
namespace Go.Proofs.YtplebjehcgcdeaaGreatDoor.Bm
open Go Go.RowKit
open Dw (Vol Ent Phs Drw readF formB)
end Go.Proofs.YtplebjehcgcdeaaGreatDoor.Bm
namespace Go.Proofs.YtplebjehcgcdeaaGreatDoor.Bm
open Go Go.RowKit
open Dw (Vol Ent Phs Drw)
def namesF (l:List Ent):Bool:=(l.take 50).all fun e=>decide (e.1.length≤30)
def fewR:List Phs→Nat × Nat→Bool × Nat × Nat
 | [],c=>(true,c)
 | p :: r,c=>if namesF p.gives then fewR r (c.1+p.vols.length,c.2+p.gives.length) else (false,c.1+p.vols.length,c.2+p.gives.length)
def fewB (d:Drw):Bool:=decide (d.phs.length≤10) && (fewR d.phs (0,0)).1 && decide ((fewR d.phs (0,0)).2.1≤45) && decide ((fewR d.phs (0,0)).2.2≤40)
def Held (d:Drw):Prop:=d.phs.length≤281474976710656∧∀ p∈d.phs,p.vols.length≤281474976710656∧p.gives.length≤281474976710656
theorem fewR_le:∀ (l:List Phs) (c:Nat × Nat),(∀ p∈l,p.vols.length≤281474976710656∧p.gives.length≤281474976710656)→(fewR l c).2.1≤c.1+l.length * 281474976710656∧(fewR l c).2.2≤c.2+l.length * 281474976710656
 | [],c,_=>⟨by show c.1≤_;omega,by show c.2≤_;omega⟩
 | p :: r,c,h=>by
  obtain ⟨h1,h2⟩:=h p (List.mem_cons_self ..)
  have ih:=fewR_le r (c.1+p.vols.length,c.2+p.gives.length) fun q hq=>h q (List.mem_cons_of_mem _ hq)
  simp only at ih
  rw [List.length_cons]
  unfold fewR
  split
  ·omega
  ·simp only;omega
theorem few_pure (k:Option Bool) (d:Drw) (hk:Rec.Ok k d.phs) (hh:Held d):pureCall E.P (L E) 12 [drV k d]=some (.bool (fewB d)):=by
 obtain ⟨hp,hq⟩:=hh
 unfold fewB
 obtain ⟨lot,phs⟩:=d
 simp only at hk hp hq ⊢
 have ll:∀ h,lenT .sl h (phR.o k phs)=some (.int .i64 phs.length):=fun h=>Rec.o_len hk
 have ix:=fun (i:Nat) (hi:i<phs.length)=>Rec.o_index (R:=phR) (s:=2) (t:=tP) (kk:=.i64) rfl hk hi
 have bP:∀ d n,below (d+1) n (phR.o k phs)=true:=fun d n=>Rec.o_bel
 unfold drV at *
 simp only at *
 generalize phR.o k phs=VP at *
 have bD:∀ n,below 8 n (.agg ⟨[.int .i64 lot,VP]⟩)=true:=fun n=>by show ([_,_]:List Value).all (below 7 n)=true;simp only [List.all_cons,List.all_nil,bP,bel_int,Bool.and_self]
 obtain ⟨A0,hA⟩:∃ A,AObj.cells tD [.int .i64 lot,VP] 0=A:=⟨_,rfl⟩
 have bl:∀ n,belowO n A0=true:=fun n=>by rw [← hA];show ([_,_]:List Value).all (below 8 n)=true;simp only [List.all_cons,List.all_nil,bP,bel_int,Bool.and_self]
 have ld:∀ X,loadT ⟨some false,some 1⟩ (A0 :: X) (.pointer (some ⟨0,1,none⟩))=some VP:=fun X=>by rw [← hA];exact obj_load (j:=1) (t:=tD) (c:=[.int .i64 lot,VP]) rfl rfl
 rw [pureCall_fn F12 rfl]
 by_cases c1:phs.length≤10
 case neg =>
  have c1':10<(phs.length:Int):=by omega
  simp -implicitDefEqProofs [r12,p12,hA,ld,ll,c1,c1']
 have c1':¬ 10<(phs.length:Int):=by omega
 have hfl:=fewR_le phs (0,0) hq
 simp only [Nat.zero_add] at hfl
 simp -implicitDefEqProofs [r12,p12,hA,ld,ll,c1,c1']
 rw [LL_for (γ:=Nat × Nat) phs (0,0) (fun i c=>[(3,.int .i64 c.1),(4,.int .i64 c.2),(5,.int .i64 i)]) (fun _ _=>[A0])
  (fun i rest c=>if (fewR rest c).1 then (.exit 0,[(3,.int .i64 (fewR rest c).2.1),(4,.int .i64 (fewR rest c).2.2),(5,undef)],[A0]) else (.ret,[(2,.bool false),(3,.int .i64 (fewR rest c).2.1),(4,.int .i64 (fewR rest c).2.2),(5,undef)],[A0]))
  (fun i c=>c.1≤i * 281474976710656∧c.2≤i * 281474976710656) (by omega) ⟨by simp,by simp⟩]
 ·cases hf:(fewR phs (0,0)).1
  ·simp -implicitDefEqProofs [k12_6]
  ·generalize (fewR phs (0,0)).2=nm at *
   obtain ⟨n,m⟩:=nm
   by_cases q1:n≤45
   ·have q1':(n:Int)≤45:=by omega
    by_cases q2:m≤40
    ·have q2':(m:Int)≤40:=by omega
     simp -implicitDefEqProofs [k12_6,q1,q1',q2,q2']
    ·have q2':¬ (m:Int)≤40:=by omega
     simp -implicitDefEqProofs [k12_6,q1,q1',q2,q2']
   ·have q1':¬ (n:Int)≤45:=by omega
    simp -implicitDefEqProofs [k12_6,q1,q1']
 ·simp -implicitDefEqProofs [k12_6]
 ·rfl
 ·intro nx i c hi _
  have e0:fewR [] c=(true,c):=rfl
  simp -implicitDefEqProofs [r12_6,k12_6,hi,ld,ll,trim_le,e0]
 ·intro nx i p rest c hi hv hd hw hI ih
  have xi:=ix i hi
  rw [hv,ph_val] at xi
  obtain ⟨hv1,hg1⟩:=hq p (by rw [← hv];exact List.getElem_mem hi)
  obtain ⟨n,m⟩:=c
  obtain ⟨i1,i2⟩:n≤i * 281474976710656∧m≤i * 281474976710656:=hI
  have hi10:i<10:=by omega
  obtain ⟨qv,qg⟩:=p
  simp only at xi hv1 hg1
  have ih:=ih (n+qv.length,m+qg.length) ⟨by show n+qv.length≤(i+1) * _;omega,by show m+qg.length≤(i+1) * _;omega⟩
  have lg:∀ h,lenT .sl h (lst false (entR.vals qg))=some (.int .i64 qg.length):=fun h=>Rec.tree_len
  have lv:∀ h,lenT .sl h (lst false (volR.vals qv))=some (.int .i64 qv.length):=fun h=>Rec.tree_len
  have ig:=fun (j:Nat) (hj:j<qg.length)=>Rec.index_tree (R:=entR) (h0:=2) (x:=false) (t:=tE) (k:=.i64) rfl hj
  have bQ:∀ d n,below (d+1) n (lst false (entR.vals qg))=true:=fun d n=>rfl
  have bW:∀ d n,below (d+1) n (lst false (volR.vals qv))=true:=fun d n=>rfl
  have w1:IntKind.i64.wrap ((n:Int)+qv.length)=((n+qv.length:Nat):Int):=by rw [wrap64 (by omega) (by omega)];exact (Int.natCast_add n qv.length).symm
  have w2:IntKind.i64.wrap ((m:Int)+qg.length)=((m+qg.length:Nat):Int):=by rw [wrap64 (by omega) (by omega)];exact (Int.natCast_add m qg.length).symm
  have e1:fewR (⟨qv,qg⟩ :: rest) (n,m)=if namesF qg then fewR rest (n+qv.length,m+qg.length) else (false,n+qv.length,m+qg.length):=rfl
  have f0:∀ u v:Value,fitsTT ⟨some true,some 2⟩ (.agg ⟨[u,v]⟩)=true:=fun u v=>rfl
  have fW:fitsTT ⟨some false,some 1⟩ (lst false (volR.vals qv))=true:=rfl
  have fG:fitsTT ⟨some false,some 1⟩ (lst false (entR.vals qg))=true:=rfl
  rw [e1]
  generalize lst false (volR.vals qv)=VW at *
  generalize lst false (entR.vals qg)=VG at *
  generalize n+qv.length=n2 at *
  generalize m+qg.length=m2 at *
  simp -implicitDefEqProofs [k12_6] at ih
  simp -implicitDefEqProofs [r12_6,k12_6,hi,ld,ll,xi,f0,fW,fG,lv,lg,w1,w2]
  have hll:(qg.take 50).length≤50∧(qg.take 50).length≤qg.length:=by rw [List.length_take];omega
  rw [LL_for (γ:=Unit) (qg.take 50) () (fun j _=>[(6,.int .i64 (j:Int))]) (fun _ _=>[A0])
   (fun _ rest _=>if rest.all (fun e=>decide (e.1.length≤30)) then (.exit 2,[(6,undef)],[A0]) else (.ret,[(2,.bool false),(6,undef)],[A0])) (fun _ _=>True) (by omega) trivial]
  ·cases hb:(qg.take 50).all (fun e=>decide (e.1.length≤30))
   ·have hn:namesF qg=false:=hb
    rw [hn,if_neg (by decide)]
    simp -implicitDefEqProofs [k12_11,trim_le]
   ·have hn:namesF qg=true:=hb
    rw [hn,if_pos rfl]
    simp -implicitDefEqProofs [k12_11,hw,trim_le]
    exact ih
  ·simp -implicitDefEqProofs [k12_11]
  ·rfl
  ·intro ny j c hj _
   have hc:(((j:Nat):Int)<(qg.length:Int)∧((j:Nat):Int)<50)→False:=fun ⟨h1,h2⟩=>by rw [List.length_take] at hj;omega
   by_cases hj1:((j:Nat):Int)<(qg.length:Int)
   ·have hj2:¬ ((j:Nat):Int)<50:=fun h=>hc ⟨hj1,h⟩
    simp -implicitDefEqProofs [r12_11,k12_11,ld,xi,f0,fG,lg,hj1,hj2,trim_le]
   ·simp -implicitDefEqProofs [r12_11,k12_11,ld,xi,f0,fG,lg,hj1,trim_le]
  ·intro ny j e rs c hj hve hde hwe _ ihe
   have ihe:=ihe () trivial
   have hj0:j<qg.length:=by omega
   have hj1:((j:Nat):Int)<(qg.length:Int):=by omega
   have hj2:((j:Nat):Int)<50:=by omega
   have xg:=ig j hj0
   rw [List.getElem_take] at hve
   rw [hve] at xg
   obtain ⟨nm,z⟩:=e
   change _=some (cptr (.agg ⟨[.string ⟨⟨nm⟩⟩,.int .i64 z]⟩)) at xg
   have fte:∀ u v:Value,fitsTT ⟨some true,some 2⟩ (.agg ⟨[u,v]⟩)=true:=fun u v=>rfl
   have ls:∀ h,lenT .str h (.string ⟨⟨nm⟩⟩)=some (.int .i64 nm.length):=fun h=>rfl
   rw [List.all_cons]
   generalize hRA:rs.all (fun e=>decide (e.1.length≤30))=RA at *
   by_cases h30:nm.length≤30
   ·have h30':¬ 30<(nm.length:Int):=by omega
    simp -implicitDefEqProofs [k12_11] at ihe
    simp -implicitDefEqProofs [r12_11,k12_11,ld,xi,f0,fG,lg,hj1,hj2,xg,ls,h30,h30',hwe,trim_le]
    exact ihe
   ·have h30':30<(nm.length:Int):=by omega
    simp -implicitDefEqProofs [r12_11,k12_11,ld,xi,f0,fG,lg,hj1,hj2,xg,ls,h30,h30',trim_le]
end Go.Proofs.YtplebjehcgcdeaaGreatDoor.Bm
namespace Go.Proofs.YtplebjehcgcdeaaGreatDoor.Bm
open Go Go.RowKit
open Dw (Vol Ent Phs Drw readF formB)
theorem fewR_true:∀ (l:List Phs) (c:Nat × Nat),(fewR l c).1=true→(fewR l c).2.1=c.1+(l.flatMap Phs.vols).length∧(∀ p∈l,p.gives.length≤(fewR l c).2.2∧namesF p.gives=true)∧c.2≤(fewR l c).2.2
 | [],c,_=>⟨rfl,fun p hp=>(by cases hp),Nat.le_refl _⟩
 | p :: r,c,h=>by
  unfold fewR at h ⊢
  split at h
  ·rename_i hn
   rw [if_pos hn]
   obtain ⟨h1,h2,h3⟩:=fewR_true r (c.1+p.vols.length,c.2+p.gives.length) h
   simp only at h1 h3
   refine ⟨by rw [h1,List.flatMap_cons,List.length_append];omega,fun q hq=>?_,by omega⟩
   rcases List.mem_cons.1 hq with rfl | hq
   ·exact ⟨by omega,hn⟩
   ·exact h2 q hq
  ·cases h
structure Few (d:Drw):Prop where
 phs:d.phs.length≤10
 vols:d.all.length≤45
 gives:∀ p∈d.phs,p.gives.length≤40∧∀ e∈p.gives,e.1.length≤30
theorem few_of {d:Drw} (h:fewB d=true):Few d:=by
 unfold fewB at h
 simp only [Bool.and_eq_true,decide_eq_true_eq] at h
 obtain ⟨⟨⟨h1,h2⟩,h3⟩,h4⟩:=h
 obtain ⟨k1,k2,_⟩:=fewR_true _ _ h2
 refine ⟨h1,?_,fun p hp=>?_⟩
 ·unfold Dw.Drw.all
  simp only [Nat.zero_add] at k1
  omega
 ·obtain ⟨a1,a2⟩:=k2 p hp
  refine ⟨by omega,fun e he=>?_⟩
  unfold namesF at a2
  rw [List.take_of_length_le (by omega)] at a2
  exact of_decide_eq_true (List.all_eq_true.1 a2 e he)
theorem Few.names {d:Drw} (h:Few d):∀ p∈d.phs,p.gives.length≤1000000∧∀ e∈p.gives,e.1.length≤1000000:=fun p hp=>by
 obtain ⟨h1,h2⟩:=h.gives p hp
 exact ⟨by omega,fun e he=>by have:=h2 e he;omega⟩
theorem dr_reify (d:Drw) (h:Heap):reify E.P 8 h (.agg #[.int .i64 d.lot,phR.o (some false) d.phs])=some (.agg #[.int .i64 d.lot,phR.o (some false) d.phs]):=by
 have hs:([.int .i64 d.lot,phR.o (some false) d.phs]:List Value).all (settled 8)=true:=by
  simp only [List.all_cons,List.all_nil,Bool.and_true,Bool.and_eq_true]
  exact ⟨rfl,Rec.o_set⟩
 show reify E.P 8 h (.agg ⟨[.int .i64 d.lot,phR.o (some false) d.phs]⟩)=_
 rw [reify_agg,reifyC_set hs];rfl
end Go.Proofs.YtplebjehcgcdeaaGreatDoor.Bm
