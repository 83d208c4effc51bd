/-
 Chapter 07, the reference: the outline of a region, walked. Conditions: a list that is not too long.
-/
import Derived.Test.YtnhdabelepjgbaaGreatQT31
namespace Go.Proofs.YtnhdabelepjgbaaGreat.Bm
open Go Go.RowKit
open Rg (Rect Slab runs runsF outT emit stripL mergeC colC edgesX ends swp cell)
def refC (f:Bool→Bool→Bool) (a b:List Rect) (x:Int):List (Int × Int):=mergeC f (colC a x) (colC b x)
def refL (f:Bool→Bool→Bool) (a b:List Rect):List Rect:=outT (runsF (stripL (refC f a b) (edgesX (a++b))))
theorem refC_ok (f:Bool→Bool→Bool) (hf:f false false=false) {a b:List Rect} (ha:∀ r∈a,r.y0<r.y1) (hb:∀ r∈b,r.y0<r.y1) (x:Int):Rg.Can (refC f a b x)∧∀ y,Rg.hasS (refC f a b x) y=f (cell a x y) (cell b x y):=by
 obtain ⟨h1,h2⟩:=Rg.mergeC_ok f hf (Rg.colC_ok ha x).1 (Rg.colC_ok hb x).1
 refine ⟨h1,fun y=>?_⟩
 rw [show Rg.hasS (refC f a b x) y=_ from h2 y,(Rg.colC_ok ha x).2,(Rg.colC_ok hb x).2]
theorem refL_ok (f:Bool→Bool→Bool) (hf:f false false=false) {a b:List Rect} (ha:∀ r∈a,r.y0<r.y1) (hb:∀ r∈b,r.y0<r.y1):Rg.Form (refL f a b)∧∀ x y,cell (refL f a b) x y=f (cell a x y) (cell b x y):=by
 have h1:Rg.Steps (a++b) (cell a):=(Rg.cell_steps a).mono fun r hr=>List.mem_append_left _ hr
 have h2:Rg.Steps (a++b) (cell b):=(Rg.cell_steps b).mono fun r hr=>List.mem_append_right _ hr
 exact Rg.strips_form (h1.op h2 f hf) (Rg.sortU_asc _) (Rg.edgesX_all _) (refC f a b) (fun x=>(refC_ok f hf ha hb x).1) fun x _ y=>(refC_ok f hf ha hb x).2 y
theorem next_run {x0 x1:Int} {w:List (Int × Int)} {s:Slab} {T:List Slab} (h:s.col=[]∨s.col≠w):outT (runs ⟨x0,x1,w⟩ (s :: T))=emit ⟨x0,x1,w⟩++outT (runs s T):=by
 by_cases e:s.col=w
 ·have h0:s.col=[]:=h.resolve_right fun h=>h e
  have hw:w=[]:=by rw [← e,h0]
  subst hw
  rw [Rg.runs_none (s:=⟨x0,x1,[]⟩) rfl,Rg.emit_nil (s:=⟨x0,x1,[]⟩) rfl];rfl
 ·exact Rg.runs_stop (s:=⟨x0,x1,w⟩) e
theorem stripL_get (c:Int→List (Int × Int)):∀ (xs:List Int) (i:Nat) (h:i+1<xs.length),∃ hs:i<(stripL c xs).length,(stripL c xs)[i]=⟨xs[i],xs[i+1],c xs[i]⟩
 | [],i,h=>by simp at h
 | [_],i,h=>by simp at h
 | a :: b :: xs,0,_=>⟨Nat.succ_pos _,rfl⟩
 | a :: b :: xs,i+1,h=>by
  obtain ⟨hs,e⟩:=stripL_get c (b :: xs) i (by simpa using h)
  exact ⟨Nat.succ_lt_succ hs,e⟩
theorem emit_len (s:Slab):(emit s).length=s.col.length:=List.length_map _
theorem emit_app (x0 x1:Int) (c d:List (Int × Int)):emit ⟨x0,x1,c++d⟩=emit ⟨x0,x1,c⟩++emit ⟨x0,x1,d⟩:=List.map_append
theorem ends_even:∀ {c:List (Int × Int)} {j:Nat} (hj:j<c.length),(ends c)[2 * j]?=some c[j].1∧(ends c)[2 * j+1]?=some c[j].2
 | [],j,hj=>by simp at hj
 | s :: c,0,_=>⟨rfl,rfl⟩
 | s :: c,j+1,hj=>ends_even (c:=c) (j:=j) (by simpa using hj)
theorem ends_at {c:List (Int × Int)} {j:Nat} (hj:j<c.length):∃ (h1:2 * j<(ends c).length) (h2:2 * j+1<(ends c).length),(ends c)[2 * j]=c[j].1∧(ends c)[2 * j+1]=c[j].2:=by
 have hl:=Rg.ends_len c
 obtain ⟨e1,e2⟩:=ends_even hj
 refine ⟨by omega,by omega,?_,?_⟩
 ·rw [List.getElem?_eq_getElem (by omega)] at e1;exact Option.some.inj e1
 ·rw [List.getElem?_eq_getElem (by omega)] at e2;exact Option.some.inj e2
theorem out_get {P:List Rect} {x0 x1 x2:Int} {c:List (Int × Int)} {j:Nat} (hj:j<c.length) :
  (P++(emit ⟨x0,x2,c.take j⟩++emit ⟨x0,x1,c.drop j⟩))[P.length+j]?=some ⟨x0,c[j].1,x1,c[j].2⟩:=by
 rw [List.getElem?_append_right (by omega),Nat.add_sub_cancel_left,List.getElem?_append_right (by rw [emit_len];simp;omega)]
 have e:(emit ⟨x0,x2,c.take j⟩).length=j:=by rw [emit_len];simp;omega
 rw [e,Nat.sub_self,List.drop_eq_getElem_cons hj];rfl
theorem out_set {P:List Rect} {x0 x1 x2:Int} {c:List (Int × Int)} {j:Nat} (hj:j<c.length) :
  (P++(emit ⟨x0,x2,c.take j⟩++emit ⟨x0,x1,c.drop j⟩)).set (P.length+j) ⟨x0,c[j].1,x2,c[j].2⟩=P++(emit ⟨x0,x2,c.take (j+1)⟩++emit ⟨x0,x1,c.drop (j+1)⟩):=by
 have e:(emit ⟨x0,x2,c.take j⟩).length=j:=by rw [emit_len];simp;omega
 rw [List.set_append_right _ _ (by omega),Nat.add_sub_cancel_left,List.set_append_right _ _ (by omega),e,Nat.sub_self,List.drop_eq_getElem_cons hj,List.take_succ_eq_append_getElem hj,emit_app,List.append_assoc]
 rfl
theorem out_len {P:List Rect} {x0 x1 x2:Int} {c:List (Int × Int)} {j:Nat}:(P++(emit ⟨x0,x2,c.take j⟩++emit ⟨x0,x1,c.drop j⟩)).length=P.length+c.length:=by
 rw [List.length_append,List.length_append,emit_len,emit_len,← List.length_append]
 simp only [List.take_append_drop]
theorem rect_sl {b:Nat} {c d:List Rect} (h:c.length=d.length):rectR.sl b c=rectR.sl b d:=by unfold Rec.sl;rw [h]
structure FS where
 i:Nat
 P:List Rect
 x0:Int
 w:List (Int × Int)
def FS.out (s:FS) (xs:List Int):List Rect:=if s.i=0 then [] else s.P++emit ⟨s.x0,xs.getD s.i 0,s.w⟩
def FS.was (s:FS):Value:=if s.i=0 then .slice none 0 0 else iT (ends s.w)
def bnd (i:Nat):Nat:=(i+1) * 5000
theorem bnd_succ (i:Nat):bnd (i+1)=bnd i+5000:=by unfold bnd;omega
theorem bnd_le {i:Nat} (h:i≤2000):bnd i≤100000000:=by unfold bnd;omega
def FS.ok (s:FS) (xs:List Int) (S:List Slab) (F:List Rect):Prop:=s.i≤S.length∧(s.i=0→s.P=[])∧(s.i≠0→s.P++outT (runs ⟨s.x0,xs.getD s.i 0,s.w⟩ (S.drop s.i))=F)∧s.P.length+s.w.length≤bnd s.i∧s.w.length≤5000
theorem swp_len (f:Bool→Bool→Bool):∀ (A B:List Int) (p q w:Bool),(swp f A B p q w).length≤A.length+B.length
 | [],[],_,_,_=>by simp [swp]
 | a :: A,[],p,q,w=>by
  have:=swp_len f A [] (!p) q (f (!p) q)
  rw [swp,List.length_append]
  split <;> simp at * <;> omega
 | [],b :: B,p,q,w=>by
  have:=swp_len f [] B p (!q) (f p (!q))
  rw [swp,List.length_append]
  split <;> simp at * <;> omega
 | a :: A,b :: B,p,q,w=>by
  have h1:=swp_len f A (b :: B) (!p) q (f (!p) q)
  have h2:=swp_len f (a :: A) B p (!q) (f p (!q))
  have h3:=swp_len f A B (!p) (!q) (f (!p) (!q))
  rw [swp]
  split
  ·rw [List.length_append];split <;> simp at * <;> omega
  ·split
   ·rw [List.length_append];split <;> simp at * <;> omega
   ·rw [List.length_append];split <;> simp at * <;> omega
termination_by A B=>A.length+B.length
set_option maxHeartbeats 4000000 in
theorem form_L (k m:Option Bool) (a b:List Rect) (z:Int) (f:Bool→Bool→Bool) (hz:(z=0∧f=orF)∨(z=1∧f=andF)∨(z=2∧f=subF)) (hk:Rec.Ok k a) (hm:Rec.Ok m b) (hab:a.length+b.length≤1000) (hya:∀ r∈a,r.y0<r.y1) (hyb:∀ r∈b,r.y0<r.y1)
  (h:Heap) (lo:Nat) (hlo0:lo≤h.length) :
  L E 32 [rectR.o k a,rectR.o m b,.int .i64 z] h lo=some (rectR.sl h.length (refL f a b),h++[rectR.row 39 (refL f a b)]):=by
 have ha:a.length≤1000:=by omega
 have hb:b.length≤1000:=by omega
 have hl1:∀ x:AObj,(h++[x]).length=h.length+1:=fun x=>by simp
 have hf:f false false=false:=by rcases hz with ⟨_,rfl⟩ | ⟨_,rfl⟩ | ⟨_,rfl⟩ <;> rfl
 have ed:=edges_spec k m a b hk hm (by omega) (by omega)
 have col:∀ x,∃ ca cb,pureCall E.P (L E) 50 [rectR.o k a,.int .i64 x]=some (iT ca)∧pureCall E.P (L E) 50 [rectR.o m b,.int .i64 x]=some (iT cb)∧pureCall E.P (L E) 49 [iT ca,iT cb,.int .i64 z]=some (iT (ends (refC f a b x)))∧(refC f a b x).length≤2000:=fun x=>by
  have c1:=rcolumn_spec k a x hk (by omega)
  have c2:=rcolumn_spec m b x hm (by omega)
  rw [ref_col hya] at c1
  rw [ref_col hyb] at c2
  have l1:=Rg.colC_len a x
  have l2:=Rg.colC_len b x
  have l3:=Rg.ends_len (colC a x)
  have l4:=Rg.ends_len (colC b x)
  have c3:=rcombine_spec (ends (colC a x)) (ends (colC b x)) z f hz (by omega) (by omega)
  obtain ⟨q1,q2⟩:=Rg.mergeC_ok f hf (Rg.colC_ok hya x).1 (Rg.colC_ok hyb x).1
  have e:=Rg.swp_col f hf (Rg.colC_ok hya x).1 (Rg.colC_ok hyb x).1 q1 q2
  have ll:=swp_len f (ends (colC a x)) (ends (colC b x)) false false false
  rw [e] at c3 ll
  rw [Rg.ends_len] at ll
  exact ⟨_,_,c1,c2,c3,by show (mergeC f (colC a x) (colC b x)).length≤2000;omega⟩
 have hxs:(edgesX (a++b)).length≤2000:=by
  have:=Rg.edgesX_len (a++b)
  rw [List.length_append] at this;omega
 have so:∀ k l,settled depth (rectR.o k l)=true:=fun k l=>Rec.o_set
 have so2:∀ l,settled depth (iT l)=true:=fun _=>rfl
 have so3:∀ z,settled depth (.int .i64 z)=true:=fun _=>rfl
 rw [L_fn F32 rfl]
 simp -implicitDefEqProofs [r32,p32,prep_new,newK_nil s32,ret1 m48,so,ed]
 unfold refL
 generalize hxe:edgesX (a++b)=xs at hxs ⊢
 have hSl:=Rg.stripL_len (refC f a b) xs
 have hSg:=stripL_get (refC f a b) xs
 generalize hSe:stripL (refC f a b) xs=S at hSl hSg ⊢
 generalize hFe:outT (runsF S)=F
 rw [LL_rec (α:=FS) ⟨0,[],0,[]⟩ (fun s=>[(7,rectR.sl h.length (s.out xs)),(9,s.was),(10,.int .i64 (s.P.length:Int)),(11,.int .i64 (s.i:Int))]) (fun s=>(h++[rectR.row 39 (s.out xs)]))
  (fun _=>(.exit 0,[(7,rectR.sl h.length F),(9,undef),(10,undef),(11,undef)],(h++[rectR.row 39 F]))) (fun s=>s.ok xs S F) (fun s=>S.length-s.i)]
 ·simp -implicitDefEqProofs [k32_6]
 ·exact ⟨Nat.zero_le _,fun _=>rfl,fun h=>absurd rfl h,Nat.zero_le _,Nat.zero_le _⟩
 ·simp -implicitDefEqProofs [k32_6,FS.out,FS.was,Rec.sl_nil]
 ·rfl
 ·intro nx s hI ih
  obtain ⟨i,P,x0,w⟩:=s
  obtain ⟨h1,h2,h3,h4,h5⟩:=hI
  simp only at h1 h2 h3 h4 h5
  have hS2:S.length≤2000:=by omega
  have hgx:∀ j (hj:j<xs.length),xs.getD j 0=xs[j]:=fun j hj=>by rw [List.getD_eq_getElem?_getD,List.getElem?_eq_getElem hj];rfl
  by_cases hi:i+1<xs.length
  ·obtain ⟨hs,eS⟩:=hSg i hi
   have hdS:S.drop i=⟨xs[i],xs[i+1],refC f a b xs[i]⟩ :: S.drop (i+1):=by rw [List.drop_eq_getElem_cons hs,eS]
   obtain ⟨ca,cb,q1,q2,q3,q4⟩:=col xs[i]
   generalize refC f a b xs[i]=c at q3 q4 hdS
   have w1:IntKind.i64.wrap ((i:Int)+1)=((i+1:Nat):Int):=wrap64 (by omega) (by omega)
   have hii:((i+1:Nat):Int)<(xs.length:Int):=by omega
   have ix0:=iT_index (l:=xs) (i:=i) (by omega)
   have ix1:=iT_index (l:=xs) (i:=i+1) hi
   have hel:=Rg.ends_len c
   have gx0:=hgx i (by omega)
   have gx1:=hgx (i+1) hi
   by_cases hmg:i≠0∧c≠[]∧c=w
   ·obtain ⟨hi0,hc0,hcw⟩:=hmg
    subst hcw
    have h3:=h3 hi0
    rw [hdS,Rg.runs_step (s:=⟨x0,xs.getD i 0,c⟩) (u:=⟨xs[i],xs[i+1],c⟩) rfl] at h3
    have h4':P.length+c.length≤bnd (i+1):=by rw [bnd_succ];omega
    have ih:=ih ⟨i+1,P,x0,c⟩ (by show S.length-(i+1)<S.length-i;omega) ⟨by show i+1≤S.length;omega,fun h=>absurd h (Nat.succ_ne_zero i),fun _=>by show P++outT (runs ⟨x0,xs.getD (i+1) 0,c⟩ (S.drop (i+1)))=F;rw [gx1];exact h3,h4',h5⟩
    have eo:FS.out ⟨i,P,x0,c⟩ xs=P++emit ⟨x0,xs[i],c⟩:=by unfold FS.out;rw [if_neg hi0,gx0]
    have eo1:FS.out ⟨i+1,P,x0,c⟩ xs=P++emit ⟨x0,xs[i+1],c⟩:=by unfold FS.out;rw [if_neg (Nat.succ_ne_zero i),gx1]
    have ew:FS.was ⟨i,P,x0,c⟩=iT (ends c):=if_neg hi0
    have ew1:FS.was ⟨i+1,P,x0,c⟩=iT (ends c):=if_neg (Nat.succ_ne_zero i)
    simp only [eo1,ew1] at ih
    simp only [eo,ew]
    have hipos:(0:Int)<(i:Int):=by omega
    have hiposN:0<i:=by omega
    have hcpos:0<c.length:=List.length_pos_iff.2 hc0
    have hepos:0<(ends c).length:=by omega
    have hepos':(0:Int)<((ends c).length:Int):=by omega
    have ci:=ints_spec (ends c) (ends c) (by omega)
    rw [decide_eq_true rfl] at ci
    have hlo:(P++emit ⟨x0,xs[i],c⟩).length=P.length+c.length:=by rw [List.length_append,emit_len]
    simp -implicitDefEqProofs [k32_6] at ih
    simp -implicitDefEqProofs [r32_6,k32_6,iT_len,w1,hii,ix0,ret1 m50,ret1 m49,so,so2,so3,q1,q2,q3,hiposN,hepos,ret0 m51,iT_reify,ci,-Int.natCast_add]
    rw [LL_rec (α:=Nat) 0 (fun j=>[(13,.int .i64 ((P.length+j:Nat):Int))]) (fun j=>(h++[rectR.row 39 (P++(emit ⟨x0,xs[i+1],c.take j⟩++emit ⟨x0,xs[i],c.drop j⟩))]))
     (fun _=>(.exit 2,[(13,undef)],(h++[rectR.row 39 (P++emit ⟨x0,xs[i+1],c⟩)]))) (fun j=>j≤c.length) (fun j=>c.length-j)]
    ·have esl:rectR.sl h.length (P++emit ⟨x0,xs[i+1],c⟩)=rectR.sl h.length (P++emit ⟨x0,xs[i],c⟩):=rect_sl (by rw [List.length_append,List.length_append,emit_len,emit_len])
     rw [esl] at ih
     simp -implicitDefEqProofs [k32_11,w1,trim_le,-Int.natCast_add]
     exact ih
    ·exact Nat.zero_le _
    ·simp -implicitDefEqProofs [k32_11]
    ·rfl
    ·intro nx j hj ih
     by_cases hjc:j<c.length
     ·have ih:=ih (j+1) (by omega) (by omega)
      have hgt:P.length+j<(P++(emit ⟨x0,xs[i+1],c.take j⟩++emit ⟨x0,xs[i],c.drop j⟩)).length:=by rw [out_len];omega
      have eg:(P++(emit ⟨x0,xs[i+1],c.take j⟩++emit ⟨x0,xs[i],c.drop j⟩))[P.length+j]=⟨x0,c[j].1,xs[i],c[j].2⟩:=by
       have:=out_get (P:=P) (x0:=x0) (x1:=xs[i]) (x2:=xs[i+1]) hjc
       rw [List.getElem?_eq_getElem hgt] at this
       exact Option.some.inj this
      have es:=out_set (P:=P) (x0:=x0) (x1:=xs[i]) (x2:=xs[i+1]) hjc
      have esl:rectR.sl h.length (P++emit ⟨x0,xs[i],c⟩)=rectR.sl h.length (P++(emit ⟨x0,xs[i+1],c.take j⟩++emit ⟨x0,xs[i],c.drop j⟩)):=rect_sl (by rw [out_len,hlo])
      have w2:IntKind.i64.wrap (((P.length+j:Nat):Int)+1)=((P.length+(j+1):Nat):Int):=by
       have:=bnd_le (i:=i) (by omega)
       exact (wrap64 (by omega) (by omega)).trans (by omega)
      have hlt:((P.length+j:Nat):Int)<((P.length+c.length:Nat):Int):=by omega
      have hltN:P.length+j<P.length+c.length:=by omega
      have ixr:=Rec.index_row (R:=rectR) (h0:=4) (t:=39) (g:=some true) (b:=h.length) (l:=P++(emit ⟨x0,xs[i+1],c.take j⟩++emit ⟨x0,xs[i],c.drop j⟩)) (i:=P.length+j) (k:=.i64) rfl hgt
      rw [← esl] at ixr
      have fdr:=Rec.field_row (R:=rectR) (b:=h.length) (n:=0) (f:=2) (l:=P++(emit ⟨x0,xs[i+1],c.take j⟩++emit ⟨x0,xs[i],c.drop j⟩)) (i:=P.length+j) (k:=⟨some true,some 4⟩) (g:=some false)
      have str:=Rec.store_cell (R:=rectR) (h:=(h++[rectR.row 39 (P++(emit ⟨x0,xs[i+1],c.take j⟩++emit ⟨x0,xs[i],c.drop j⟩))])) (b:=h.length) (j:=2) (lo:=lo) (t:=39) (l:=P++(emit ⟨x0,xs[i+1],c.take j⟩++emit ⟨x0,xs[i],c.drop j⟩)) (i:=P.length+j) (v:=.int .i64 xs[i+1]) (a:=⟨x0,c[j].1,xs[i+1],c[j].2⟩) rfl end0 hlo0 hgt (by decide) (by rw [eg];rfl)
      rw [es] at str
      generalize P++(emit ⟨x0,xs[i+1],c.take j⟩++emit ⟨x0,xs[i],c.drop j⟩)=oj at *
      generalize P++(emit ⟨x0,xs[i+1],c.take (j+1)⟩++emit ⟨x0,xs[i],c.drop (j+1)⟩)=oj1 at *
      generalize hQ:((P.length+j:Nat):Int)=Q at *
      generalize hQ1:((P.length+(j+1):Nat):Int)=Q1 at *
      simp -implicitDefEqProofs [k32_11] at ih
      simp -implicitDefEqProofs [r32_11,k32_11,Rec.sl_len,hlo,hlt,w1,w2,ix1,ixr,fdr,str,hl1,trim_le,-Int.natCast_add,-List.length_append]
      exact ih
     ·have e1:c.take j=c:=List.take_of_length_le (by omega)
      have e2:c.drop j=[]:=List.drop_of_length_le (by omega)
      have e3:emit ⟨x0,xs[i],[]⟩=[]:=rfl
      have hlt:¬ (((P.length+j:Nat):Int)<((P.length+c.length:Nat):Int)):=by omega
      have hltN:¬ (P.length+j<P.length+c.length):=by omega
      rw [e1,e2,e3,List.append_nil]
      simp -implicitDefEqProofs [r32_11,k32_11,Rec.sl_len,hlo,hlt,hl1,trim_le,-Int.natCast_add,-List.length_append]
   ·have hnx:c=[]∨(i≠0→c≠w):=by
     by_cases h0:c=[]
     ·exact .inl h0
     ·exact .inr fun hi0 he=>hmg ⟨hi0,h0,he⟩
    obtain ⟨o,ho⟩:∃ o,o=FS.out ⟨i,P,x0,w⟩ xs:=⟨_,rfl⟩
    have hol:o.length≤bnd i:=by
     rw [ho];unfold FS.out
     split
     ·exact Nat.zero_le _
     ·rw [List.length_append,emit_len];exact h4
    have hbi:=bnd_le (i:=i) (by omega)
    have h4':o.length+c.length≤bnd (i+1):=by rw [bnd_succ];omega
    have hnew:o++outT (runs ⟨xs[i],xs[i+1],c⟩ (S.drop (i+1)))=F:=by
     rw [ho];unfold FS.out
     by_cases hi0:i=0
     ·rw [if_pos hi0,List.nil_append,← hFe]
      subst hi0
      rw [List.drop_zero] at hdS
      rw [hdS];rfl
     ·rw [if_neg hi0]
      have h3:=h3 hi0
      rw [hdS,next_run (s:=⟨xs[i],xs[i+1],c⟩) (by rcases hnx with h | h;exact .inl h;exact .inr (h hi0)),← List.append_assoc] at h3
      exact h3
    have ih:=ih ⟨i+1,o,xs[i],c⟩ (by show S.length-(i+1)<S.length-i;omega) ⟨by show i+1≤S.length;omega,fun h=>absurd h (Nat.succ_ne_zero i),fun _=>by show o++outT (runs ⟨xs[i],xs.getD (i+1) 0,c⟩ (S.drop (i+1)))=F;rw [gx1];exact hnew,h4',by show c.length≤5000;omega⟩
    have eo1:FS.out ⟨i+1,o,xs[i],c⟩ xs=o++emit ⟨xs[i],xs[i+1],c⟩:=by unfold FS.out;rw [if_neg (Nat.succ_ne_zero i),gx1]
    have ew1:FS.was ⟨i+1,o,xs[i],c⟩=iT (ends c):=if_neg (Nat.succ_ne_zero i)
    simp only [eo1,ew1] at ih
    simp only [← ho]
    simp -implicitDefEqProofs [k32_6,-Int.natCast_add] at ih
    have three:i=0∨(i≠0∧c=[])∨(i≠0∧c≠[]∧c≠w):=by
     by_cases hi0:i=0
     ·exact .inl hi0
     ·by_cases hc0:c=[]
      ·exact .inr (.inl ⟨hi0,hc0⟩)
      ·exact .inr (.inr ⟨hi0,hc0,fun e=>hmg ⟨hi0,hc0,e⟩⟩)
    have hG:(0<i∧0<(ends c).length→FS.was ⟨i,P,x0,w⟩=iT (ends w)∧decide (ends c=ends w)=false):=fun ⟨h,h'⟩=>by
     have hi0:i≠0:=by omega
     refine ⟨if_neg hi0,decide_eq_false fun e=>?_⟩
     have ecw:c=w:=by rw [← Rg.pairs_ends c,e,Rg.pairs_ends]
     rcases hnx with h0 | h0
     ·subst h0;simp [ends] at h'
     ·exact h0 hi0 ecw
    have cw:=ints_spec (ends c) (ends w) (by omega)
    generalize FS.was ⟨i,P,x0,w⟩=wv at hG ⊢
    by_cases gi:0<i
    ·by_cases gc:0<(ends c).length
     ·obtain ⟨ew,ed⟩:=hG ⟨gi,gc⟩
      rw [ed] at cw
      subst ew
      simp -implicitDefEqProofs [r32_6,k32_6,iT_len,w1,hii,ix0,ret1 m50,ret1 m49,so,so2,so3,q1,q2,q3,gi,gc,ret0 m51,iT_reify,cw,Rec.sl_len,-Int.natCast_add]
      have st17:=fun (o':List Rect) (j:Nat) (hj:j<c.length) (ho:o'.length≤200000000)=>app_rect (h:=(h++[rectR.row 39 o'])) (b:=h.length) (lo:=lo) (c:=o') ⟨xs[i],c[j].1,xs[i+1],c[j].2⟩ end0 hlo0 (by omega)
      rw [LL_for (γ:=List Rect) c o (fun j o'=>[(7,rectR.sl h.length o'),(14,.int .i64 ((2 * j:Nat):Int))]) (fun _ o'=>(h++[rectR.row 39 o']))
       (fun _ rest o'=>(.exit 4,[(7,rectR.sl h.length (o'++emit ⟨xs[i],xs[i+1],rest⟩)),(14,undef)],(h++[rectR.row 39 (o'++emit ⟨xs[i],xs[i+1],rest⟩)]))) (fun j o'=>o'.length=o.length+j) (by omega) rfl]
      ·simp -implicitDefEqProofs [k32_17,w1,trim_le,-Int.natCast_add]
       exact ih
      ·simp -implicitDefEqProofs [k32_17]
      ·rfl
      ·intro nx j o' hj _
       have e0:emit ⟨xs[i],xs[i+1],[]⟩=[]:=rfl
       have w2:IntKind.i64.wrap (((2 * j:Nat):Int)+1)=((2 * j+1:Nat):Int):=wrap64 (by omega) (by omega)
       have hjn:¬ (((2 * j+1:Nat):Int)<((ends c).length:Int)):=by omega
       have hjn':¬ (2 * j+1<(ends c).length):=by omega
       simp -implicitDefEqProofs [r32_17,k32_17,iT_len,w2,hjn,e0,trim_le,-Int.natCast_add,-Int.natCast_mul]
      ·intro nx j s rest o' hj hv hd hw ho ih
       obtain ⟨g1,g2,g3,g4⟩:=ends_at hj
       have st:=st17 o' j hj (by omega)
       rw [hv] at g3 g4 st
       have w2:IntKind.i64.wrap (((2 * j:Nat):Int)+1)=((2 * j+1:Nat):Int):=wrap64 (by omega) (by omega)
       have w3:IntKind.i64.wrap (((2 * j:Nat):Int)+2)=((2 * (j+1):Nat):Int):=(wrap64 (by omega) (by omega)).trans (by omega)
       have hjn:((2 * j+1:Nat):Int)<((ends c).length:Int):=by omega
       have ixa:=iT_index (l:=ends c) (i:=2 * j) g1
       have ixb:=iT_index (l:=ends c) (i:=2 * j+1) g2
       rw [g3] at ixa
       rw [g4] at ixb
       have ih:=ih (o'++[⟨xs[i],s.1,xs[i+1],s.2⟩]) (by rw [List.length_append];show o'.length+1=_;omega)
       rw [emit_cons,← List.append_assoc]
       simp -implicitDefEqProofs [k32_17,-List.append_assoc,-Int.natCast_add,-Int.natCast_mul] at ih
       simp -implicitDefEqProofs [r32_17,k32_17,iT_len,w1,w2,w3,hjn,ix0,ix1,ixa,ixb,b4_all,lit_rect,st,hl1,trim_le,-List.append_assoc,-Int.natCast_add,-Int.natCast_mul]
       exact ih
     ·simp -implicitDefEqProofs [r32_6,k32_6,iT_len,w1,hii,ix0,ret1 m50,ret1 m49,so,so2,so3,q1,q2,q3,gi,gc,Rec.sl_len,-Int.natCast_add]
      have st17:=fun (o':List Rect) (j:Nat) (hj:j<c.length) (ho:o'.length≤200000000)=>app_rect (h:=(h++[rectR.row 39 o'])) (b:=h.length) (lo:=lo) (c:=o') ⟨xs[i],c[j].1,xs[i+1],c[j].2⟩ end0 hlo0 (by omega)
      rw [LL_for (γ:=List Rect) c o (fun j o'=>[(7,rectR.sl h.length o'),(14,.int .i64 ((2 * j:Nat):Int))]) (fun _ o'=>(h++[rectR.row 39 o']))
       (fun _ rest o'=>(.exit 4,[(7,rectR.sl h.length (o'++emit ⟨xs[i],xs[i+1],rest⟩)),(14,undef)],(h++[rectR.row 39 (o'++emit ⟨xs[i],xs[i+1],rest⟩)]))) (fun j o'=>o'.length=o.length+j) (by omega) rfl]
      ·simp -implicitDefEqProofs [k32_17,w1,trim_le,-Int.natCast_add]
       exact ih
      ·simp -implicitDefEqProofs [k32_17]
      ·rfl
      ·intro nx j o' hj _
       have e0:emit ⟨xs[i],xs[i+1],[]⟩=[]:=rfl
       have w2:IntKind.i64.wrap (((2 * j:Nat):Int)+1)=((2 * j+1:Nat):Int):=wrap64 (by omega) (by omega)
       have hjn:¬ (((2 * j+1:Nat):Int)<((ends c).length:Int)):=by omega
       have hjn':¬ (2 * j+1<(ends c).length):=by omega
       simp -implicitDefEqProofs [r32_17,k32_17,iT_len,w2,hjn,e0,trim_le,-Int.natCast_add,-Int.natCast_mul]
      ·intro nx j s rest o' hj hv hd hw ho ih
       obtain ⟨g1,g2,g3,g4⟩:=ends_at hj
       have st:=st17 o' j hj (by omega)
       rw [hv] at g3 g4 st
       have w2:IntKind.i64.wrap (((2 * j:Nat):Int)+1)=((2 * j+1:Nat):Int):=wrap64 (by omega) (by omega)
       have w3:IntKind.i64.wrap (((2 * j:Nat):Int)+2)=((2 * (j+1):Nat):Int):=(wrap64 (by omega) (by omega)).trans (by omega)
       have hjn:((2 * j+1:Nat):Int)<((ends c).length:Int):=by omega
       have ixa:=iT_index (l:=ends c) (i:=2 * j) g1
       have ixb:=iT_index (l:=ends c) (i:=2 * j+1) g2
       rw [g3] at ixa
       rw [g4] at ixb
       have ih:=ih (o'++[⟨xs[i],s.1,xs[i+1],s.2⟩]) (by rw [List.length_append];show o'.length+1=_;omega)
       rw [emit_cons,← List.append_assoc]
       simp -implicitDefEqProofs [k32_17,-List.append_assoc,-Int.natCast_add,-Int.natCast_mul] at ih
       simp -implicitDefEqProofs [r32_17,k32_17,iT_len,w1,w2,w3,hjn,ix0,ix1,ixa,ixb,b4_all,lit_rect,st,hl1,trim_le,-List.append_assoc,-Int.natCast_add,-Int.natCast_mul]
       exact ih
    ·simp -implicitDefEqProofs [r32_6,k32_6,iT_len,w1,hii,ix0,ret1 m50,ret1 m49,so,so2,so3,q1,q2,q3,gi,Rec.sl_len,-Int.natCast_add]
     have st17:=fun (o':List Rect) (j:Nat) (hj:j<c.length) (ho:o'.length≤200000000)=>app_rect (h:=(h++[rectR.row 39 o'])) (b:=h.length) (lo:=lo) (c:=o') ⟨xs[i],c[j].1,xs[i+1],c[j].2⟩ end0 hlo0 (by omega)
     rw [LL_for (γ:=List Rect) c o (fun j o'=>[(7,rectR.sl h.length o'),(14,.int .i64 ((2 * j:Nat):Int))]) (fun _ o'=>(h++[rectR.row 39 o']))
      (fun _ rest o'=>(.exit 4,[(7,rectR.sl h.length (o'++emit ⟨xs[i],xs[i+1],rest⟩)),(14,undef)],(h++[rectR.row 39 (o'++emit ⟨xs[i],xs[i+1],rest⟩)]))) (fun j o'=>o'.length=o.length+j) (by omega) rfl]
     ·simp -implicitDefEqProofs [k32_17,w1,trim_le,-Int.natCast_add]
      exact ih
     ·simp -implicitDefEqProofs [k32_17]
     ·rfl
     ·intro nx j o' hj _
      have e0:emit ⟨xs[i],xs[i+1],[]⟩=[]:=rfl
      have w2:IntKind.i64.wrap (((2 * j:Nat):Int)+1)=((2 * j+1:Nat):Int):=wrap64 (by omega) (by omega)
      have hjn:¬ (((2 * j+1:Nat):Int)<((ends c).length:Int)):=by omega
      have hjn':¬ (2 * j+1<(ends c).length):=by omega
      simp -implicitDefEqProofs [r32_17,k32_17,iT_len,w2,hjn,e0,trim_le,-Int.natCast_add,-Int.natCast_mul]
     ·intro nx j s rest o' hj hv hd hw ho ih
      obtain ⟨g1,g2,g3,g4⟩:=ends_at hj
      have st:=st17 o' j hj (by omega)
      rw [hv] at g3 g4 st
      have w2:IntKind.i64.wrap (((2 * j:Nat):Int)+1)=((2 * j+1:Nat):Int):=wrap64 (by omega) (by omega)
      have w3:IntKind.i64.wrap (((2 * j:Nat):Int)+2)=((2 * (j+1):Nat):Int):=(wrap64 (by omega) (by omega)).trans (by omega)
      have hjn:((2 * j+1:Nat):Int)<((ends c).length:Int):=by omega
      have ixa:=iT_index (l:=ends c) (i:=2 * j) g1
      have ixb:=iT_index (l:=ends c) (i:=2 * j+1) g2
      rw [g3] at ixa
      rw [g4] at ixb
      have ih:=ih (o'++[⟨xs[i],s.1,xs[i+1],s.2⟩]) (by rw [List.length_append];show o'.length+1=_;omega)
      rw [emit_cons,← List.append_assoc]
      simp -implicitDefEqProofs [k32_17,-List.append_assoc,-Int.natCast_add,-Int.natCast_mul] at ih
      simp -implicitDefEqProofs [r32_17,k32_17,iT_len,w1,w2,w3,hjn,ix0,ix1,ixa,ixb,b4_all,lit_rect,st,hl1,trim_le,-List.append_assoc,-Int.natCast_add,-Int.natCast_mul]
      exact ih
  ·have hfin:i=S.length:=by omega
   have hout:FS.out ⟨i,P,x0,w⟩ xs=F:=by
    unfold FS.out
    by_cases hi0:i=0
    ·rw [if_pos hi0,← hFe]
     have:S=[]:=List.eq_nil_of_length_eq_zero (by omega)
     rw [this];rfl
    ·rw [if_neg hi0]
     have h3:=h3 hi0
     rw [List.drop_of_length_le (by omega),Rg.runs_end] at h3
     exact h3
   have w1:IntKind.i64.wrap ((i:Int)+1)=((i+1:Nat):Int):=wrap64 (by omega) (by omega)
   have hii:¬ (((i+1:Nat):Int)<(xs.length:Int)):=by omega
   rw [hout]
   simp -implicitDefEqProofs [r32_6,k32_6,iT_len,w1,hii,trim_le,-Int.natCast_add]
theorem form_spec2 (k m:Option Bool) (a b:List Rect) (z:Int) (f:Bool→Bool→Bool) (hz:(z=0∧f=orF)∨(z=1∧f=andF)∨(z=2∧f=subF)) (hk:Rec.Ok k a) (hm:Rec.Ok m b) (hab:a.length+b.length≤1000) (hya:∀ r∈a,r.y0<r.y1) (hyb:∀ r∈b,r.y0<r.y1)
  (h:Heap) (lo:Nat) (hlo:lo≤h.length) :
  retCall E (L E) lo false 32 [rectR.o k a,rectR.o m b,.int .i64 z] h=some (rectR.sl h.length (refL f a b),h++[rectR.row 39 (refL f a b)]):=by
 rw [ret3 m32]
 show ((L E 32 [rectR.o k a,rectR.o m b,.int .i64 z] h lo).map _)=_
 rw [form_L k m a b z f hz hk hm hab hya hyb h lo hlo]
 show some (_,trim _ _ _)=_
 rw [trim_no]
 have hn:¬ (h.length<h.length):=Nat.lt_irrefl _
 exact decide_eq_false hn
theorem form_spec (k m:Option Bool) (a b:List Rect) (z:Int) (f:Bool→Bool→Bool) (hz:(z=0∧f=orF)∨(z=1∧f=andF)∨(z=2∧f=subF)) (hk:Rec.Ok k a) (hm:Rec.Ok m b) (ha:a.length≤500) (hb:b.length≤500) (hya:∀ r∈a,r.y0<r.y1) (hyb:∀ r∈b,r.y0<r.y1)
  (h:Heap) (lo:Nat) (hlo:lo≤h.length) :
  retCall E (L E) lo false 32 [rectR.o k a,rectR.o m b,.int .i64 z] h=some (rectR.sl h.length (refL f a b),h++[rectR.row 39 (refL f a b)]) :=
 form_spec2 k m a b z f hz hk hm (by omega) hya hyb h lo hlo
open Rg (Rect cell ofL opL)
theorem ref_of {l:List Rect} (hl:∀ r∈l,r.y0<r.y1):refL orF l []=ofL l:=by
 obtain ⟨h1,h2⟩:=refL_ok orF rfl hl (fun r hr=>absurd hr List.not_mem_nil)
 refine h1.ext (Rg.ofL_ok hl).1 fun x y=>?_
 rw [h2,(Rg.ofL_ok hl).2]
 exact Bool.or_false _
theorem rright_spec (r:Rect):pureCall E.P (L E) 31 [rectR.val r]=some (.bool (okR r)):=by
 rw [pureCall_fn F31 rfl]
 simp -implicitDefEqProofs [r31,padS,rect_val]
 unfold okR
 by_cases h1:0≤r.x0
 case neg=>simp -implicitDefEqProofs [h1]
 by_cases h2:r.x0<r.x1
 case neg=>simp -implicitDefEqProofs [h1,h2]
 by_cases h3:r.x1≤1048576
 case neg=>simp -implicitDefEqProofs [h1,h2,h3]
 by_cases h4:0≤r.y0
 case neg=>simp -implicitDefEqProofs [h1,h2,h3,h4]
 by_cases h5:r.y0<r.y1
 case neg=>simp -implicitDefEqProofs [h1,h2,h3,h4,h5]
 simp -implicitDefEqProofs [h1,h2,h3,h4,h5]
theorem rright_s (r:Rect):pureCall E.P (L E) 31 [.agg ⟨[.int .i64 r.x0,.int .i64 r.y0,.int .i64 r.x1,.int .i64 r.y1]⟩]=some (.bool (okR r)):=rright_spec r
theorem rof_spec (k:Option Bool) (l:List Rect) (hk:Rec.Ok k l) (hl:l.length≤1000000):pureCall E.P (L E) 12 [rectR.o k l]=some (resL (ofR l)):=by
 rw [pureCall_fn F12 rfl]
 simp -implicitDefEqProofs [r12,padS]
 rw [LL_for (γ:=Unit) l () (fun i _=>[(4,.int .i64 i)]) (fun _ _=>[]) (fun _ rest _=>if rest.all okR then (.exit 0,[(4,undef)],[]) else (.ret,[(2,.slice none 0 0),(3,.int .i64 1),(4,undef)],[])) (fun _ _=>True) (by omega) trivial]
 ·unfold ofR
  cases ha:l.all okR
  ·simp -implicitDefEqProofs [k12_2,resL]
  ·by_cases h4:400<l.length
   ·have h4i:400<(l.length:Int):=by omega
    simp -implicitDefEqProofs [k12_2,resL,h4,h4i,Rec.o_len hk]
   ·have h4':¬ (400<(l.length:Int)):=by omega
    have hy:=ofL_ok' ha
    have fs:=form_spec k none l [] 0 orF (.inl ⟨rfl,rfl⟩) hk (fun _=>rfl) (by omega) (Nat.zero_le _) hy (fun r hr=>absurd hr List.not_mem_nil) [] 0 (Nat.zero_le _)
    rw [ref_of hy] at fs
    simp only [List.length_nil,List.nil_append] at fs
    have rr:=Rec.reify_row (R:=rectR) (P:=E.P) (h:=[rectR.row 39 (ofL l)]) (b:=0) (n:=7) (t:=39) (l:=ofL l) rfl s32 a32
    have en:rectR.o none ([]:List Rect)=.slice none 0 0:=rfl
    rw [en] at fs
    have so:settled depth (rectR.o k l)=true:=Rec.o_set
    have so2:settled depth (.slice none 0 0)=true:=rfl
    have so3:settled depth (.int .i64 0)=true:=rfl
    by_cases h2:(ofL l).length≤200
    ·have h2':¬ (200<((ofL l).length:Int)):=by omega
     simp -implicitDefEqProofs [k12_2,resL,h4,h4',Rec.o_len hk,fs,rr,Rec.sl_len,h2,h2']
    ·have h2':200<((ofL l).length:Int):=by omega
     simp -implicitDefEqProofs [k12_2,resL,h4,h4',Rec.o_len hk,fs,Rec.sl_len,h2,h2']
 ·simp -implicitDefEqProofs [k12_2]
 ·rfl
 ·intro nx i c hi _
  simp -implicitDefEqProofs [r12_2,k12_2,hi,Rec.o_len hk,trim_le]
 ·intro nx i r rest c hi hv hd hw _ ih
  have ih:=ih () trivial
  have ixi:=Rec.o_index (R:=rectR) (t:=39) (kk:=.i64) (s:=4) rfl hk hi
  rw [hv] at ixi
  have hr:=rright_s r
  cases h:okR r
  ·simp -implicitDefEqProofs [r12_2,k12_2,hi,ixi,Rec.o_len hk,rect_val,ret0 m31,hr,h,trim_le]
  ·simp -implicitDefEqProofs [k12_2] at ih
   simp -implicitDefEqProofs [r12_2,k12_2,hi,ixi,Rec.o_len hk,rect_val,ret0 m31,hr,h,hw,trim_le]
   exact ih
theorem rright2_spec (k:Option Bool) (l:List Rect) (hk:Rec.Ok k l) (hl:l.length≤1000000):pureCall E.P (L E) 41 [rectR.o k l]=some (.bool (regB l)):=by
 have ho:=rof_spec k l hk hl
 have so:settled depth (rectR.o k l)=true:=Rec.o_set
 rw [pureCall_fn F41 rfl]
 unfold regB
 have hle:∀ m,ofR l=.ok m→m.length≤200:=fun m h=>by
  unfold ofR at h
  split at h
  ·split at h
   ·cases h
   ·split at h
    ·cases h;assumption
    ·cases h
  ·cases h
 have hne:∀ e,ofR l=.error e→e=1∨e=6:=fun m h=>by
  unfold ofR at h
  split at h
  ·split at h
   ·cases h;exact .inr rfl
   ·split at h
    ·cases h
    ·cases h;exact .inr rfl
  ·cases h;exact .inl rfl
 cases h:ofR l with
 | error e =>
  rw [h] at ho
  have e0:¬ (e=0):=by have:=hne e h;omega
  simp only [resL] at ho
  simp -implicitDefEqProofs [r41,p41,ret1 m12,so,ho,e0]
 | ok m =>
  rw [h] at ho
  have he:=same_rects (some false) k m l Rec.ok_some hk (by have:=hle m h;omega)
  rw [show rectR.o (some false) m=lst false (rectR.vals m) from rfl] at he
  simp only [resL] at ho
  simp -implicitDefEqProofs [r41,p41,ret1 m12,so,ho,ret0 m7,Rec.o_reify,he]
open Rg (Rect Pt Sd bdL refS xsB yAll nxI cornF trc freeN rotM Net Clo loopsL remL ascH hdP ltPo)
theorem colQ_mem {a:List Rect} {x:Int} {s:Sd}:∀ {ys:List Int},s∈Rg.colQ a x ys→s.1.1=x∧s.2.1=x∧s.1.2∈ys∧s.2.2∈ys
 | [],h=>absurd h List.not_mem_nil
 | [_],h=>absurd h List.not_mem_nil
 | u :: v :: ys,h=>by
  have h:s∈(if (Rg.cell a (x-1) u && !Rg.cell a x u)=true then [((x,u),(x,v))] else [])++((if (Rg.cell a x u && !Rg.cell a (x-1) u)=true then [((x,v),(x,u))] else [])++Rg.colQ a x (v :: ys)):=h
  rcases List.mem_append.1 h with q | q
  ·split at q
   ·rw [List.mem_singleton.1 q];simp
   ·cases q
  ·rcases List.mem_append.1 q with q | q
   ·split at q
    ·rw [List.mem_singleton.1 q];simp
    ·cases q
   ·obtain ⟨h1,h2,h3,h4⟩:=colQ_mem q
    exact ⟨h1,h2,List.mem_cons_of_mem _ h3,List.mem_cons_of_mem _ h4⟩
theorem rect_near {a:List Rect} (h:∀ r∈a,okR r=true):∀ r∈a,0≤r.x0∧r.x0≤1048576∧0≤r.y0∧r.y0≤1048576∧0≤r.x1∧r.x1≤1048576∧0≤r.y1∧r.y1≤1048576:=fun r hr=>by
 have:=okR_iff.1 (h r hr)
 unfold Rect.inBox at this
 omega
theorem xs_near {a:List Rect} (h:∀ r∈a,okR r=true):∀ x∈xsB a,0≤x∧x≤1048576:=fun x hx=>by
 obtain ⟨r,hr,q⟩:=Rg.xs_mem.1 hx
 have:=rect_near h r hr
 omega
theorem ref_near {a:List Rect} (h:∀ r∈a,okR r=true):∀ s∈refS a,nearS s:=by
 intro s hs
 rcases List.mem_append.1 hs with q | q
 ·exact bd_near h s (List.mem_append_left _ q)
 ·obtain ⟨x,hx,q⟩:=List.mem_flatMap.1 q
  obtain ⟨h1,h2,h3,h4⟩:=colQ_mem q
  have hX:=xs_near h x hx
  have hy:∀ y∈yAll a,0≤y∧y≤1048576:=fun y hy=>by
   obtain ⟨r,hr,q⟩:=Rg.yAll_mem.1 hy
   have:=rect_near h r hr
   omega
  have h1':=hy _ h3
  have h2':=hy _ h4
  unfold nearS
  omega
theorem ref_len {a:List Rect} (ha:a.length≤200):(refS a).length≤400000:=by
 have h1:=bdH_len a
 have h3:(xsB a).length≤(xsL a).length:=Rg.sortU_le _
 have h4:=xsL_len a
 have h5:(yAll a).length≤(yL a).length:=Rg.sortU_le _
 have h6:=yL_len a
 have h2:=flatMap_le (f:=fun x=>Rg.colQ a x (yAll a)) (n:=400) (fun x=>by
  rw [colQ_zip]
  have:=gQs_len a x ((yAll a).zip (yAll a).tail)
  have:=zip_len (yAll a)
  omega) (xsB a)
 show (Rg.bdH a++(xsB a).flatMap fun x=>Rg.colQ a x (yAll a)).length≤400000
 rw [List.length_append]
 have h7:(xsB a).length * 400≤400 * 400:=Nat.mul_le_mul_right _ (by omega)
 omega
theorem outline7_bad (k:Option Bool) (a:List Rect) (hk:Rec.Ok k a) (ha:a.length≤1000000) (hr:regB a=false):pureCall E.P (L E) 15 [rectR.o k a]=some (.slice none 0 0):=by
 have hR:=rright2_spec k a hk ha
 rw [hr] at hR
 have rf:∀ h,reify E.P 8 h (rectR.o k a)=some (rectR.o k a):=fun _=>Rec.o_reify
 rw [pureCall_fn F15 rfl]
 simp -implicitDefEqProofs [r15,p15,ret0 m41,rf,hR]
theorem ins_set {o:List (List Pt)} {p:List Pt} {k:Nat} (h0:0<k) (hk:k≤o.length) :
  ((o.take k++p :: o.drop k).set k (o[k-1]'(by omega))).set (k-1) p=o.take (k-1)++p :: o.drop (k-1):=by
 have e1:o.take k=o.take (k-1)++[o[k-1]'(by omega)]:=by
  conv=>lhs;rw [show k=(k-1)+1 by omega]
  rw [List.take_add_one,List.getElem?_eq_getElem (by omega)];rfl
 have e2:o.drop (k-1)=o[k-1]'(by omega) :: o.drop k:=by
  have:=List.drop_eq_getElem_cons (l:=o) (i:=k-1) (by omega)
  rw [show k-1+1=k by omega] at this
  exact this
 have l1:(o.take k).length=k:=by rw [List.length_take];omega
 have l2:(o.take (k-1)).length=k-1:=by rw [List.length_take];omega
 rw [List.set_append_right _ _ (by omega),l1,Nat.sub_self,List.set_cons_zero,e1,List.append_assoc,List.set_append_right _ _ (by omega),l2,Nat.sub_self,e2]
 rfl
theorem ins_at {o:List (List Pt)} {p:List Pt} {k:Nat} (h0:0<k) (hk:k≤o.length) (h:k-1<(o.take k++p :: o.drop k).length):(o.take k++p :: o.drop k)[k-1]=o[k-1]'(by omega):=by
 rw [List.getElem_append_left (by rw [List.length_take];omega),List.getElem_take]
theorem ins_len (o:List (List Pt)) (p:List Pt) {k:Nat} (hk:k≤o.length):(o.take k++p :: o.drop k).length=o.length+1:=by
 rw [List.length_append,List.length_cons,List.length_take,List.length_drop];omega
theorem slo_eq {o o':List (List Pt)} {b:Nat} (h:o.length=o'.length):Enc.sl b o=Enc.sl b o':=by unfold Enc.sl;rw [h]
set_option maxHeartbeats 4000000 in
theorem outline7_walk (k:Option Bool) (a:List Rect) (hk:Rec.Ok k a) (ha:a.length≤200) (hr:regB a=true) (hx:∀ x∈xsB a,0≤x∧x≤1048576) (hnet:Net (refS a)) (hlen:(refS a).length≤400000) (hnear:∀ s∈refS a,nearS s):∃ o,ascH o∧o.Perm (loopsL (refS a))∧pureCall E.P (L E) 15 [rectR.o k a]=some (lst false (ptsE.vals o)):=by
 have hR:=rright2_spec k a hk (by omega)
 rw [hr] at hR
 have hS:=sides_spec k a hk ha hx
 have rf:∀ h,reify E.P 8 h (rectR.o k a)=some (rectR.o k a):=fun _=>Rec.o_reify
 have st:settled depth (rectR.o k a)=true:=Rec.o_set
 have bA:∀ d n,below (d+1) n (rectR.o k a)=true:=fun d n=>Rec.o_bel
 have lS:∀ h,lenT .sl h (lst false (sideR.vals (refS a)))=some (.int .i64 (refS a).length):=fun h=>Rec.tree_len
 have bS:∀ d n,below (d+1) n (lst false (sideR.vals (refS a)))=true:=fun d n=>rfl
 have lp:=fun {h:Heap} {D lo:Nat} {d:List Bool} {i:Nat} h1 h2 h3 h4 h5=>loop_spec (h:=h) (D:=D) (lo:=lo) (l:=refS a) (d:=d) (i:=i) hnet hlen hnear h1 h2 h3 h4 h5
 have hheads:=Rg.loops_heads hnet
 have hcl0:=Rg.clo_none hnet
 have hcs:=fun {d:List Bool} {i:Nat} (h1:Clo (refS a).length (nxI (refS a)) d) h2 h3=>Rg.clo_step hnet (d:=d) (i:=i) h1 h2 h3
 have hck:=fun {d:List Bool} {i:Nat} (h1:d[i]?=some true)=>Rg.clo_skip hnet h1
 rw [pureCall_fn F15 rfl]
 generalize rectR.o k a=VA at *
 generalize lst false (sideR.vals (refS a))=VS at *
 generalize refS a=l at *
 have mk:=make_one (h:=[]) (el:=⟨4,1,1,.bool false,⟨some false,some 1⟩⟩) (n:=l.length) (k:=.i64) (k':=.i64) rfl rfl (by omega) (by decide)
 have ez:List.replicate l.length (Value.bool false)=(List.replicate l.length false).map .bool:=by rw [List.map_replicate]
 rw [ez] at mk
 have mk:makeSliceT (some ⟨4,1,1,.bool false,⟨some false,some 1⟩⟩) [] (.int .i64 (l.length:Int)) (.int .i64 (l.length:Int))=some (.slice (some ⟨0,0,none⟩) l.length l.length,[rowB (List.replicate l.length false)]):=mk
 simp -implicitDefEqProofs [r15,p15,ret0 m41,rf,hR,ret1 m42,st,hS,lS,mk,prep_new,newK_nil zPs]
 generalize hX:LL _ _ _ _=X
 obtain ⟨o,g,rfl,g1,g2,g3⟩:=LL_uxk hX (α:=Nat × List Bool × List (List Pt) × Heap) (U:=List (List Pt)) (0,List.replicate l.length false,[],[rowB (List.replicate l.length false),ptsE.row 22 []]) (fun c=>[(5,Enc.sl 1 c.2.2.1),(6,.int .i64 (c.1:Int))]) (fun c=>c.2.2.2) (.exit 0) (fun o=>[(5,Enc.sl 1 o),(6,undef)])
  (fun o g=>g[1]?=some (ptsE.row 22 o)∧ascH o∧o.Perm (loopsL l))
  (fun c=>c.1≤l.length∧Clo l.length (nxI l) c.2.1∧(∀ q∈c.2.2.1,Rg.Loop q)∧ascH c.2.2.1∧(c.2.2.1++remL l c.1 c.2.1).Perm (loopsL l)∧c.2.2.2[0]?=some (rowB c.2.1)∧c.2.2.2[1]?=some (ptsE.row 22 c.2.2.1)∧c.2.2.1.length≤c.1) (fun c=>l.length-c.1)
  ⟨Nat.zero_le _,hcl0,fun q hq=>absurd hq List.not_mem_nil,List.Pairwise.nil,by rw [Rg.rem_all];exact List.Perm.refl _,rfl,rfl,Nat.zero_le _⟩
  (by simp -implicitDefEqProofs [k15_7,show Enc.sl 1 ([]:List (List Pt))=.slice (some ⟨1,0,some 0⟩) 0 0 from rfl]) (by simp [rowB,Enc.row,Enc.vals]) (by
  intro nx c hc ih
  obtain ⟨i,d,o,h⟩:=c
  obtain ⟨h1,h2,h3,h4,h5,h6,h7,h8⟩:=hc
  simp only at h1 h2 h3 h4 h5 h6 h7 h8
  by_cases hi:i<l.length
  ·have hBl:=get_lt h7
   have wi:IntKind.i64.wrap ((i:Int)+1)=((i+1:Nat):Int):=(wrap64 (by omega) (by omega)).trans (by omega)
   have dx:indexAddrT (.sl 4 ⟨some false,some 1⟩) (.slice (some ⟨0,0,none⟩) l.length l.length) (.int .i64 (i:Int))=some (cAt 0 i):=by
    rw [index_slice,if_pos ⟨by omega,by omega⟩];simp [shift,cAt]
   have hdl:=h2.len
   have hdi:i<d.length:=by omega
   have ld:=obj_load (b:=0) (j:=i) (sz:=some 1) h6 (v:=.bool d[i]) (by rw [List.getElem?_map,List.getElem?_eq_getElem hdi];rfl)
   rw [Rg.rem_step l d hi] at h5
   cases hdv:d[i]
   ·have hd0:d[i]?=some false:=by rw [List.getElem?_eq_getElem hdi,hdv]
    obtain ⟨hc1,hc2,hc3⟩:=hcs h2 hi hd0
    obtain ⟨b,h',lp1,lp2,lp3,lp4,lp5⟩:=lp (h:=h) (D:=0) (lo:=0) hdl hi h6 (Nat.le_refl _) hc2
    rw [hdv] at ld
    obtain ⟨m,r,em,_⟩:=hc3.least
    rw [if_neg (by rw [em];simp)] at h5
    generalize (trc (nxI l) (l.length+1) d i).1=D' at *
    generalize rotM (cornF l (trc (nxI l) (l.length+1) d i).2)=p at *
    have hpl:p.length≠0:=by rw [em];simp
    have fz:=Rec.freeze_row (R:=spanR) (P:=E.P) (lo:=0) lp3 zP aPt7 (Nat.zero_le _)
    rw [if_neg hpl] at fz
    have q0:(h'.set b .dead)[0]?=some (rowB D'):=by rw [List.getElem?_set_ne (by omega)];exact lp4
    have q1:(h'.set b .dead)[1]?=some (ptsE.row 22 o):=by rw [List.getElem?_set_ne (by omega)];exact lp5 1 _ hBl (by decide) h7
    generalize hG:h'.set b .dead=G at *
    have ap:=Enc.app (O:=ptsE) (el:=elPts) (h:=G) (lo:=0) (b:=1) (m:=[p]) (u:=lst true [lst false (spanR.vals p)]) rfl q1 (Enc.cells_tree (O:=ptsE) (l:=[p])) (Nat.zero_le _) (by show (_+1) * 24≤2 ^ 47;omega)
    unfold elPts at ap
    have w0:(G.set 1 (ptsE.row 22 (o++[p])))[0]?=some (rowB D'):=by rw [List.getElem?_set_ne (by decide)];exact q0
    have w1:(G.set 1 (ptsE.row 22 (o++[p])))[1]?=some (ptsE.row 22 (o++[p])):=List.getElem?_set_self (get_lt q1)
    generalize hG2:G.set 1 (ptsE.row 22 (o++[p]))=G2 at *
    have so:∀ g,lenT .sl g (Enc.sl 1 o)=some (.int .i64 o.length):=fun g=>rfl
    have bp:∀ d n,below (d+1) n (lst false (spanR.vals p))=true:=fun d n=>rfl
    simp -implicitDefEqProofs [r15_7,k15_7,lS,hi,dx,ld,ret2 m43,lp1,prep_frz,fz,so,lit_pts1,ap]
    generalize hX2:LL _ _ _ _=X2
    obtain ⟨u,g3,rfl,u1,u2,u3,u4,u5⟩:=LL_uxk hX2 (α:=Nat × Heap) (U:=Nat) (o.length,G2) (fun c=>[(8,.int .i64 (c.1:Int))]) (fun c=>c.2) (.exit 2) (fun _=>[(8,undef)])
     (fun u g=>u≤o.length∧(∀ q∈o.drop u,ltPo (hdP p) (hdP q)=true)∧(0<u→ltPo (hdP p) (hdP (o.getD (u-1) []))=false)∧g[0]?=some (rowB D')∧g[1]?=some (ptsE.row 22 (o.take u++p :: o.drop u)))
     (fun c=>c.1≤o.length∧(∀ q∈o.drop c.1,ltPo (hdP p) (hdP q)=true)∧c.2[0]?=some (rowB D')∧c.2[1]?=some (ptsE.row 22 (o.take c.1++p :: o.drop c.1))) (fun c=>c.1)
     ⟨Nat.le_refl _,by rw [List.drop_length];exact fun q hq=>absurd hq List.not_mem_nil,w0,by rw [List.take_length,List.drop_length];exact w1⟩
     (by simp -implicitDefEqProofs [k15_13]) rfl (by
     intro nx2 c2 hc ih2
     obtain ⟨kk,g2⟩:=c2
     obtain ⟨j1,j2,j3,j4⟩:=hc
     simp only at j1 j2 j3 j4
     by_cases k0:0<kk
     ·have k0':0<(kk:Int):=by omega
      have wk:IntKind.i64.wrap ((kk:Int)-1)=((kk-1:Nat):Int):=(wrap64 (by omega) (by omega)).trans (by omega)
      have hkl:kk-1<o.length:=by omega
      have hN:=ins_len o p j1
      have hA:=fun h=>ins_at (p:=p) k0 j1 h
      have hset:=ins_set (p:=p) k0 j1
      have hgd:o.getD (kk-1) []=o[kk-1]:=by rw [List.getD_eq_getElem?_getD,List.getElem?_eq_getElem hkl];rfl
      have hdr:o.drop (kk-1)=o[kk-1] :: o.drop kk:=by
       have:=List.drop_eq_getElem_cons hkl
       rw [show kk-1+1=kk by omega] at this
       exact this
      obtain ⟨m',r',em',_⟩:=(h3 o[kk-1] (List.getElem_mem hkl)).least
      have esl:Enc.sl 1 (o++[p])=Enc.sl 1 (o.take kk++p :: o.drop kk):=slo_eq (by rw [hN,List.length_append];rfl)
      have x1:indexAddrT (.sl 22 ⟨some false,some 1⟩) (Enc.sl 1 (o++[p])) (.int .i64 ((kk-1:Nat):Int))=some (Enc.at_ 1 (o.take kk++p :: o.drop kk) (kk-1)):=by rw [esl];exact Enc.sl_index (by omega)
      have x2:indexAddrT (.sl 22 ⟨some false,some 1⟩) (Enc.sl 1 (o++[p])) (.int .i64 (kk:Int))=some (Enc.at_ 1 (o.take kk++p :: o.drop kk) kk):=by rw [esl];exact Enc.sl_index (by omega)
      have y1:=Enc.load_at (O:=ptsE) (sz:=some 1) j4 (i:=kk-1) (by omega)
      rw [hA] at y1
      have t1:=Enc.store_at (O:=ptsE) (lo:=0) (a:=o[kk-1]) (i:=kk) j4 (Nat.zero_le _) (by omega)
      have j4':(g2.set 1 (ptsE.row 22 ((o.take kk++p :: o.drop kk).set kk o[kk-1])))[1]?=some (ptsE.row 22 ((o.take kk++p :: o.drop kk).set kk o[kk-1])):=List.getElem?_set_self (get_lt j4)
      have t2:=Enc.store_at (O:=ptsE) (lo:=0) (a:=p) (i:=kk-1) j4' (Nat.zero_le _) (by rw [List.length_set];omega)
      rw [hset] at t2
      have ea:Enc.at_ 1 ((o.take kk++p :: o.drop kk).set kk o[kk-1]) (kk-1)=Enc.at_ 1 (o.take kk++p :: o.drop kk) (kk-1):=by unfold Enc.at_;rw [List.length_set]
      rw [ea] at t2
      have j3':(g2.set 1 (ptsE.row 22 ((o.take kk++p :: o.drop kk).set kk o[kk-1])))[0]?=some (rowB D'):=by rw [List.getElem?_set_ne (by decide)];exact j3
      have hl1:(g2.set 1 (ptsE.row 22 ((o.take kk++p :: o.drop kk).set kk o[kk-1]))).length=g2.length:=List.length_set
      generalize g2.set 1 (ptsE.row 22 ((o.take kk++p :: o.drop kk).set kk o[kk-1]))=g4 at *
      have j5:(g4.set 1 (ptsE.row 22 (o.take (kk-1)++p :: o.drop (kk-1))))[1]?=some (ptsE.row 22 (o.take (kk-1)++p :: o.drop (kk-1))):=List.getElem?_set_self (get_lt j4')
      have j6:(g4.set 1 (ptsE.row 22 (o.take (kk-1)++p :: o.drop (kk-1))))[0]?=some (rowB D'):=by rw [List.getElem?_set_ne (by decide)];exact j3'
      have hl2:(g4.set 1 (ptsE.row 22 (o.take (kk-1)++p :: o.drop (kk-1)))).length=g2.length:=by rw [List.length_set];exact hl1
      generalize g4.set 1 (ptsE.row 22 (o.take (kk-1)++p :: o.drop (kk-1)))=g5 at *
      have i0:indexAddrT (.sl 42 ⟨some true,some 2⟩) (lst false (spanR.vals p)) (.int .i64 0)=some (cptr (.agg ⟨[.int .i64 m.1,.int .i64 m.2]⟩)):=by
       have:indexAddrT (.sl 42 ⟨some true,some 2⟩) (lst false (spanR.vals (m :: r))) (.int .i64 ((0:Nat):Int))=some (cptr (spanR.val ((m :: r)[0]'(by simp)))):=Rec.index_tree rfl (by simp)
       rw [em];exact this
      have i1:indexAddrT (.sl 42 ⟨some true,some 2⟩) (ptsE.e o[kk-1]) (.int .i64 0)=some (cptr (.agg ⟨[.int .i64 m'.1,.int .i64 m'.2]⟩)):=by
       have:indexAddrT (.sl 42 ⟨some true,some 2⟩) (lst false (spanR.vals (m' :: r'))) (.int .i64 ((0:Nat):Int))=some (cptr (spanR.val ((m' :: r')[0]'(by simp)))):=Rec.index_tree rfl (by simp)
       show indexAddrT _ (lst false (spanR.vals o[kk-1])) _=_
       rw [em'];exact this
      have ls:=less_spec m m'
      have el:Rg.ltP m m'=ltPo (hdP p) (hdP o[kk-1]):=by rw [em,em'];rfl
      rw [el] at ls
      have ih2:=fun (hB:ltPo (hdP p) (hdP o[kk-1])=true)=>ih2 (kk-1,g5) (by show kk-1<kk;omega) ⟨by show kk-1≤o.length;omega,by
       show ∀ q∈o.drop (kk-1),_
       rw [hdr]
       intro q hq
       rcases List.mem_cons.1 hq with e | e
       ·rw [e];exact hB
       ·exact j2 q e,j6,j5⟩
      generalize ptsE.e o[kk-1]=EV at *
      have ep:lst false (spanR.vals p)=ptsE.e p:=rfl
      rw [← ep] at t2
      clear ep
      generalize lst false (spanR.vals p)=PV at *
      generalize Enc.at_ 1 (o.take kk++p :: o.drop kk) (kk-1)=A1 at *
      generalize Enc.at_ 1 (o.take kk++p :: o.drop kk) kk=A2 at *
      generalize Enc.sl 1 (o++[p])=OV at *
      cases hB:ltPo (hdP p) (hdP o[kk-1])
      ·rw [hB] at ls
       refine ⟨kk,g2,?_,j1,j2,fun _=>by rw [hgd];exact hB,j3,j4⟩
       simp -implicitDefEqProofs [r15_13,k15_13,k0,k0',wk,x1,y1,i0,i1,ret0 m28,ls,trim_le]
      ·rw [hB] at ls
       have ih2:=ih2 hB
       simp -implicitDefEqProofs [k15_13] at ih2
       simp -implicitDefEqProofs [r15_13,k15_13,k0,k0',wk,x1,x2,y1,i0,i1,ret0 m28,ls,t1,t2,trim_le,hl2]
       exact ih2
     ·have k0':¬ (0<(kk:Int)):=by omega
      refine ⟨kk,g2,?_,j1,j2,fun q=>absurd q k0,j3,j4⟩
      simp -implicitDefEqProofs [r15_13,k15_13,k0,k0',trim_le])
    have hne:=Rg.heads_ne h5 hheads
    have hasc:=Rg.ins_asc h4 u1 u2 (fun q=>by
     have:=u3 q
     rw [List.getD_eq_getElem?_getD,List.getElem?_eq_getElem (by omega)] at this
     exact this) hne
    have hperm:=Rg.perm_ins (k:=u) h5
    have hN:=ins_len o p u1
    have hlo:∀ q∈o.take u++p :: o.drop u,Rg.Loop q:=fun q hq=>by
     rcases List.mem_append.1 hq with e | e
     ·exact h3 q (List.mem_of_mem_take e)
     ·rcases List.mem_cons.1 e with e | e
      ·rw [e];exact hc3
      ·exact h3 q (List.mem_of_mem_drop e)
    have ih:=fun vs=>ih (i+1,D',o.take u++p :: o.drop u,trim h.length vs g3) (by show l.length-(i+1)<l.length-i;omega) ⟨hi,hc1,hlo,hasc,hperm,trim_get (by omega) u4,trim_get hBl u5,by show (o.take u++p :: o.drop u).length≤i+1;omega⟩
    have esl:Enc.sl 1 (o.take u++p :: o.drop u)=Enc.sl 1 (o++[p]):=slo_eq (by rw [hN,List.length_append];rfl)
    generalize o.take u++p :: o.drop u=oo at *
    simp -implicitDefEqProofs [k15_7,esl] at ih
    simp -implicitDefEqProofs [k15_13,wi]
    exact ih _
   ·have hd1:d[i]?=some true:=by rw [List.getElem?_eq_getElem hdi,hdv]
    rw [hck hd1] at h5
    have h5:(o++([]++remL l (i+1) d)).Perm (loopsL l):=h5
    rw [List.nil_append] at h5
    rw [hdv] at ld
    have ih:=ih (i+1,d,o,h) (by show l.length-(i+1)<l.length-i;omega) ⟨hi,h2,h3,h4,h5,h6,h7,by show o.length≤i+1;omega⟩
    simp -implicitDefEqProofs [k15_7] at ih
    simp -implicitDefEqProofs [r15_7,k15_7,lS,hi,dx,ld,wi,trim_le]
    exact ih
  ·have e:l.length≤i:=by omega
   rw [Rg.rem_end l d e,List.append_nil] at h5
   refine ⟨o,h,?_,h7,h4,h5⟩
   simp -implicitDefEqProofs [r15_7,k15_7,lS,hi,trim_le])
 refine ⟨o,g2,g3,?_⟩
 have rr:=Enc.reifyR_sl (O:=ptsE) (P:=E.P) (h:=g) (b:=1) (t:=22) (l:=o) g1 zPs aPs
 simp -implicitDefEqProofs [k15_7,rr]
end Go.Proofs.YtnhdabelepjgbaaGreat.Bm
