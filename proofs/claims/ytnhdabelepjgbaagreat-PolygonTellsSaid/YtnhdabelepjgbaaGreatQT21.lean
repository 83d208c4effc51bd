/-
 The reference of regions, plain: sorting by insertion, and the combination of two columns. Conditions: none. No program in sight.
-/
import Derived.Test.YtnhdabelepjgbaaGreatQT20
import Derived.Test.YtnhdabelepjgbaaGreatQT17
namespace Go.Proofs.YtnhdabelepjgbaaGreat.Bm
open Go Go.RowKit
open Rg (Rect Slab stripsL edgesX colC stripL sortU)
theorem end0 {h:Heap} {a:AObj}:(h++[a])[h.length]?=some a:=by simp
theorem end1 {h:Heap} {a b:AObj}:(h++[a,b])[h.length]?=some a:=by simp
theorem end2 {h:Heap} {a b:AObj}:(h++[a,b])[h.length+1]?=some b:=by
 rw [List.getElem?_append_right (by omega),Nat.add_sub_cancel_left];rfl
theorem set0 {h:Heap} {a b:AObj}:(h++[a]).set h.length b=h++[b]:=by
 rw [List.set_append_right _ _ (Nat.le_refl _),Nat.sub_self];rfl
theorem set1 {h:Heap} {a c b:AObj}:(h++[a,c]).set h.length b=h++[b,c]:=by
 rw [List.set_append_right _ _ (Nat.le_refl _),Nat.sub_self];rfl
theorem set2 {h:Heap} {a c b:AObj}:(h++[a,c]).set (h.length+1) b=h++[a,b]:=by
 rw [List.set_append_right _ _ (by omega),Nat.add_sub_cancel_left];rfl
theorem take1 {h:Heap} {a b:AObj}:(h++[a,b]).take (h.length+1)=h++[a]:=by
 rw [List.take_append,List.take_of_length_le (by omega),Nat.add_sub_cancel_left];rfl
theorem app_app {h:Heap} {a b:AObj}:(h++[a])++[b]=h++[a,b]:=by rw [List.append_assoc];rfl
theorem s61:szOf E.P 126=some 3:=by kernel_rfl
theorem a61:aggT E.P 126=some true:=by kernel_rfl
theorem s3:szOf E.P 3=some 1:=by kernel_rfl
theorem b3_all {a b:Int} {c:List (Int × Int)}:buildT (Bl.fs ⟨[.int .i64 0,.int .i64 0,.slice none 0 0]⟩ ⟨[(0,1),(1,1),(2,1)]⟩) #[(0,.int .i64 a),(1,.int .i64 b),(2,colV c)]=some (.agg ⟨[.int .i64 a,.int .i64 b,colV c]⟩):=rfl
theorem lit_slab (h:Heap) (a b:Int) (c:List (Int × Int)):buildSliceT (some ⟨126,3,40,.agg ⟨[.int .i64 0,.int .i64 0,.slice none 0 0]⟩,⟨some true,some 3⟩⟩) false h 1 #[(0,.agg ⟨[.int .i64 a,.int .i64 b,colV c]⟩)]=some (lst true [.agg ⟨[.int .i64 a,.int .i64 b,colV c]⟩],h) :=
 (build_lit' (n:=1) (l:=[(0,.agg ⟨[.int .i64 a,.int .i64 b,colV c]⟩)]) rfl rfl (by decide) (by decide) (by decide)).trans rfl
theorem app_slab {h:Heap} {b lo:Nat} {c:List Slab} (s:Slab) (hob:h[b]?=some (slabR.row 126 c)) (hlo:lo≤b) (hc:c.length≤1000000) :
  appendT (some ⟨126,3,40,.agg ⟨[.int .i64 0,.int .i64 0,.slice none 0 0]⟩,⟨some true,some 3⟩⟩) h lo false (slabR.sl b c) (lst true [.agg ⟨[.int .i64 s.x0,.int .i64 s.x1,colV s.col]⟩])=some (slabR.sl b (c++[s]),h.set b (slabR.row 126 (c++[s]))) :=
 Rec.app (R:=slabR) (m:=[s]) rfl hob (Rec.cells_tree (R:=slabR) rfl [s]) hlo (by show (c.length+1) * 40≤2 ^ 47;omega)
theorem app_two' {h:Heap} {b lo:Nat} {c:List Int} (u v:Int) (hob:h[b]?=some (intR.row 3 c)) (hlo:lo≤b) (hc:c.length≤1000000) :
  appendT (some ⟨3,1,8,.int .i64 0,⟨some false,some 1⟩⟩) h lo false (intR.sl b c) (lst true [.int .i64 u,.int .i64 v])=some (intR.sl b (c++[u,v]),h.set b (intR.row 3 (c++[u,v]))) :=
 Rec.app (R:=intR) (m:=[u,v]) rfl hob (cells_lst (by rfl)) hlo (by show (c.length+2) * 8≤2 ^ 47;omega)
def xsL (l:List Rect):List Int:=l.flatMap fun r=>[r.x0,r.x1]
theorem xsL_cons (r:Rect) (l:List Rect):xsL (r :: l)=[r.x0,r.x1]++xsL l:=rfl
theorem xsL_len (l:List Rect):(xsL l).length=2 * l.length:=by
 induction l with
 | nil=>rfl
 | cons r l ih =>
  have e2:(r :: l).length=l.length+1:=rfl
  have e3:[r.x0,r.x1].length=2:=rfl
  rw [xsL_cons,List.length_append,ih,e2,e3];omega
theorem strips_spec (x:Bool) (P:List (Option Bool × List Rect)) (hok:∀ p∈P,Rec.Ok p.1 p.2) (hP:P.length≤1000) (ht:tot P≤1000) (st:settled depth (lst x (P.map fun p=>rectR.o p.1 p.2))=true)
  (h:Heap) (lo:Nat) (hlo:lo≤h.length) (hb:∀ n,h.length≤n→h.all (belowO n)=true) :
  ∃ q,L E 78 [lst x (P.map fun p=>rectR.o p.1 p.2)] h lo=some (slabR.sl (h.length+1) (stripsL (allP P)),h++[intR.row 3 q,slabR.row 126 (stripsL (allP P))]):=by
 have hcat:=rects_concat x P hok hP (by omega)
 have hcl:(allP P).length≤1000:=by rw [tot_all];exact ht
 have hk:Rec.Ok (if tot P=0 then none else some false) (allP P):=by
  intro hk
  split at hk
  ·rename_i h0
   exact List.eq_nil_of_length_eq_zero (by rw [tot_all,h0])
  ·cases hk
 generalize (if tot P=0 then none else some false)=k at hcat hk
 generalize allP P=ll at hcat hk hcl ⊢
 obtain ⟨r,co,hr⟩:=compInts (h:=h++[intR.row 3 (sortI (xsL ll))]) (b:=h.length) (lo:=lo) (d:=sortI (xsL ll)) end0 hlo (by rw [sortI_len,xsL_len];omega)
 refine ⟨compI (sortI (xsL ll))++r,?_⟩
 rw [L_fn F78 rfl]
 simp -implicitDefEqProofs [r78,p78,prep_new,newK_nil s3,ret1 m79,hcat,st,Rec.o_len hk]
 rw [LL_for (γ:=List Int) ll [] (fun i c=>[(4,intR.sl h.length c),(13,.int .i64 i)]) (fun _ c=>h++[intR.row 3 c])
  (fun _ rest c=>(.exit 0,[(4,intR.sl h.length (c++xsL rest)),(13,undef)],h++[intR.row 3 (c++xsL rest)])) (fun i c=>c.length=2 * i) (by omega) rfl]
 ·rw [List.nil_append]
  have hel:=xsL_len ll
  have so:=sortInts (h:=h++[intR.row 3 (xsL ll)]) (b:=h.length) (lo:=lo) (d:=xsL ll) end0 hlo (by omega)
  have hsl:(sortI (xsL ll)).length=(xsL ll).length:=sortI_len _
  rw [Rg.comp_sort] at co hr ⊢
  have e1:intR.sl h.length (sortI (xsL ll))=intR.sl h.length (xsL ll):=by unfold Rec.sl;rw [hsl]
  rw [e1,set0] at co
  rw [set0] at so
  simp -implicitDefEqProofs [k78_4,ret2 (E:=E) (f:=18) rfl,ret2 (E:=E) (f:=19) rfl,so,co,prep_new,newK_nil s61]
  rw [hsl] at hr ⊢
  have exs:stripsL ll=stripL (colC ll) (sortU (xsL ll)):=rfl
  rw [exs]
  generalize hys:sortU (xsL ll)=ys at hr ⊢
  generalize (xsL ll).length=n at hr hel ⊢
  have hyn:ys.length≤40000:=by rw [List.length_append] at hr;omega
  clear hcat co so
  rw [LL_rec (α:=Nat × List Slab) (1,[]) (fun c=>[(7,slabR.sl (h.length+1) c.2),(8,.int .i64 c.1)]) (fun c=>h++[intR.row 3 (ys++r),slabR.row 126 c.2])
   (fun c=>(.exit 2,[(7,slabR.sl (h.length+1) (c.2++stripL (colC ll) (ys.drop (c.1-1)))),(8,undef)],h++[intR.row 3 (ys++r),slabR.row 126 (c.2++stripL (colC ll) (ys.drop (c.1-1)))])) (fun c=>1≤c.1∧c.1≤ys.length+1∧c.2.length≤c.1) (fun c=>ys.length+1-c.1)]
  ·simp -implicitDefEqProofs [k78_12]
  ·exact ⟨Nat.le_refl _,by simp,by simp⟩
  ·simp -implicitDefEqProofs [k78_12,Rec.sl_nil]
  ·rfl
  ·intro nx c hc ih
   obtain ⟨i,o⟩:=c
   obtain ⟨h1,h2,h3⟩:=hc
   simp only at h1 h2 h3
   by_cases hi:i<ys.length
   ·obtain ⟨m,rfl⟩:∃ m,i=m+1:=⟨i-1,by omega⟩
    have hm0:m<ys.length:=by omega
    have hd:ys.drop (m+1-1)=ys[m] :: ys[m+1] :: ys.drop (m+2):=by
     rw [Nat.add_sub_cancel,List.drop_eq_getElem_cons hm0,List.drop_eq_getElem_cons hi]
    have hd2:ys.drop (m+1)=ys[m+1] :: ys.drop (m+2):=List.drop_eq_getElem_cons hi
    have ek:stripL (colC ll) (ys[m] :: ys[m+1] :: ys.drop (m+2))=[⟨ys[m],ys[m+1],colC ll ys[m]⟩]++stripL (colC ll) (ys[m+1] :: ys.drop (m+2)):=rfl
    have w1:IntKind.i64.wrap (m:Int)=m:=wrap64 (by omega) (by omega)
    have w2:IntKind.i64.wrap ((m:Int)+1+1)=(m:Int)+2:=(wrap64 (by omega) (by omega)).trans (by omega)
    have hlt:(m:Int)+1<(ys.length:Int):=by omega
    have px:=pre_index (t:=3) (g:=some false) (b:=h.length) (n:=n) (k:=.i64) hm0
    have px1:=pre_index (t:=3) (g:=some false) (b:=h.length) (n:=n) (k:=.i64) hi
    have pl:=pre_load (h:=h++[intR.row 3 (ys++r),slabR.row 126 o]) (b:=h.length) (n:=n) (sz:=some 1) end1 hr hm0
    have pl1:=pre_load (h:=h++[intR.row 3 (ys++r),slabR.row 126 o]) (b:=h.length) (n:=n) (sz:=some 1) end1 hr hi
    have so1:settled depth (rectR.o k ll)=true:=Rec.o_set
    have so2:∀ z,settled depth (.int .i64 z)=true:=fun _=>rfl
    have cs:=column_spec k ll ys[m] hk hcl
    have ap:=app_slab (h:=h++[intR.row 3 (ys++r),slabR.row 126 o]) (b:=h.length+1) (lo:=lo) (c:=o) ⟨ys[m],ys[m+1],colC ll ys[m]⟩ end2 (by omega) (by omega)
    rw [set2] at ap
    have ih:=ih (m+2,o++[⟨ys[m],ys[m+1],colC ll ys[m]⟩]) (by show ys.length+1-(m+2)<ys.length+1-(m+1);omega) ⟨by show 1≤m+2;omega,by show m+2≤ys.length+1;omega,by show (o++[_]).length≤m+2;simp;omega⟩
    rw [hd,ek,← hd2,← List.append_assoc]
    push_cast at px1
    simp -implicitDefEqProofs [k78_12,-List.append_assoc] at ih
    simp -implicitDefEqProofs [r78_12,k78_12,hlt,pre_len,w1,w2,px,pl,px1,pl1,ret1 m97,so1,so2,cs,b3_all,lit_slab,ap,trim_le,-List.append_assoc]
    exact ih
   ·have e:stripL (colC ll) (ys.drop (i-1))=[]:=by
     have hl:(ys.drop (i-1)).length≤1:=by rw [List.length_drop];omega
     match hd:ys.drop (i-1),hl with
     | [],_=>rfl
     | [z],_=>rfl
    rw [e,List.append_nil]
    simp -implicitDefEqProofs [r78_12,k78_12,hi,pre_len,trim_le]
 ·simp -implicitDefEqProofs [k78_4,Rec.sl_nil]
 ·rfl
 ·intro nx i c hi _
  simp -implicitDefEqProofs [r78_4,k78_4,hi,trim_le,xsL]
 ·intro nx i s rest c hi hv hd hw hc ih
  have ixi:=Rec.o_index (R:=rectR) (t:=39) (kk:=.i64) (s:=4) rfl hk hi
  rw [hv] at ixi
  have ap:=fun o=>app_two' (h:=h++[intR.row 3 c,o]) (b:=h.length) (lo:=lo) (c:=c) s.x0 s.x1 end1 hlo (by omega)
  simp only [set1] at ap
  have ih:=ih (c++[s.x0,s.x1]) (by simp;omega)
  have hlo1:lo≤h.length+1:=by omega
  have hb1:=hb (h.length+1) (by omega)
  rw [xsL_cons,← List.append_assoc]
  simp -implicitDefEqProofs [k78_4,-List.append_assoc] at ih
  simp -implicitDefEqProofs [r78_4,k78_4,hi,ixi,rect_val,lit_two,ap,hw,trim_cut,Rec.sl_bel,Rec.row_bel,Rec.o_bel,hlo1,hb1,app_app,take1,-List.append_assoc,-List.all_eq_true]
  exact ih
open Rg (Rect Slab runs runsF outT emit)
def cntR (c:List (Int × Int)):List Slab→Nat
 | []=>0
 | u :: U=>if u.col=c then cntR c U+1 else 0
theorem cntR_le (c:List (Int × Int)):∀ (U:List Slab),cntR c U≤U.length
 | []=>Nat.le_refl _
 | u :: U=>by
  have:=cntR_le c U
  unfold cntR
  split
  ·exact Nat.succ_le_succ this
  ·exact Nat.zero_le _
def lastX (x:Int) (c:List (Int × Int)):List Slab→Int
 | []=>x
 | u :: U=>if u.col=c then lastX u.x1 c U else x
theorem lastX_get (c:List (Int × Int)):∀ (U:List Slab) (s:Slab) (h:cntR c U<(s :: U).length),lastX s.x1 c U=((s :: U)[cntR c U]).x1
 | [],s,_=>rfl
 | u :: U,s,h=>by
  by_cases e:u.col=c
  ·have e1:cntR c (u :: U)=cntR c U+1:=by rw [cntR,if_pos e]
   have e2:lastX s.x1 c (u :: U)=lastX u.x1 c U:=by rw [lastX,if_pos e]
   rw [e2,lastX_get c U u (by have:=cntR_le c U;simp;omega)]
   simp only [e1,List.getElem_cons_succ]
  ·have e1:cntR c (u :: U)=0:=by rw [cntR,if_neg e]
   have e2:lastX s.x1 c (u :: U)=s.x1:=by rw [lastX,if_neg e]
   rw [e2]
   simp only [e1,List.getElem_cons_zero]
theorem runs_run:∀ (U:List Slab) (s:Slab),outT (runs s U)=emit ⟨s.x0,lastX s.x1 s.col U,s.col⟩++outT (runsF (U.drop (cntR s.col U)))
 | [],s=>by
  rw [Rg.runs_end]
  show emit s=emit s++[]
  rw [List.append_nil]
 | u :: U,s=>by
  by_cases e:u.col=s.col
  ·rw [Rg.runs_step e,runs_run U ⟨s.x0,u.x1,s.col⟩]
   rw [cntR,lastX,if_pos e,if_pos e]
   rfl
  ·rw [Rg.runs_stop e,cntR,lastX,if_neg e,if_neg e]
   rfl
theorem runsF_drop {T:List Slab} {i:Nat} (hi:i<T.length):∃ h:i+cntR T[i].col (T.drop (i+1))<T.length,
  outT (runsF (T.drop i))=emit ⟨T[i].x0,(T[i+cntR T[i].col (T.drop (i+1))]).x1,T[i].col⟩++outT (runsF (T.drop (i+1+cntR T[i].col (T.drop (i+1))))):=by
 have hc:=cntR_le T[i].col (T.drop (i+1))
 rw [List.length_drop] at hc
 have h:i+cntR T[i].col (T.drop (i+1))<T.length:=by omega
 refine ⟨h,?_⟩
 rw [List.drop_eq_getElem_cons hi]
 show outT (runs T[i] (T.drop (i+1)))=_
 rw [runs_run,lastX_get _ _ _ (by simp;omega),List.drop_drop]
 have e:(T[i] :: T.drop (i+1))[cntR T[i].col (T.drop (i+1))]'(by simp;omega)=T[i+cntR T[i].col (T.drop (i+1))]:=by
  have hd:=List.drop_eq_getElem_cons hi
  have:∀ (j:Nat) (hj:j<(T[i] :: T.drop (i+1)).length) (hj':i+j<T.length),(T[i] :: T.drop (i+1))[j]=T[i+j]:=by
   intro j hj hj'
   have:(T.drop i)[j]'(by rw [hd];exact hj)=T[i+j]:=List.getElem_drop ..
   rw [← this]
   congr 1
   exact hd.symm
  exact this _ _ _
 rw [e]
theorem drop_cnt {c:List (Int × Int)} {T:List Slab} {k:Nat} (hk:k<T.length):cntR c (T.drop k)=if (T[k]).col=c then cntR c (T.drop (k+1))+1 else 0:=by
 rw [List.drop_eq_getElem_cons hk,cntR]
theorem emit_cons (x0 x1:Int) (s:Int × Int) (c:List (Int × Int)):emit ⟨x0,x1,s :: c⟩=[⟨x0,s.1,x1,s.2⟩]++emit ⟨x0,x1,c⟩:=rfl
theorem s32:szOf E.P 39=some 4:=by kernel_rfl
theorem a32:aggT E.P 39=some true:=by kernel_rfl
theorem lit_rect (h:Heap) (a b c d:Int):buildSliceT (some ⟨39,4,32,.agg ⟨[.int .i64 0,.int .i64 0,.int .i64 0,.int .i64 0]⟩,⟨some true,some 4⟩⟩) false h 1 #[(0,.agg ⟨[.int .i64 a,.int .i64 b,.int .i64 c,.int .i64 d]⟩)]=some (lst true [.agg ⟨[.int .i64 a,.int .i64 b,.int .i64 c,.int .i64 d]⟩],h) :=
 (build_lit' (n:=1) (l:=[(0,.agg ⟨[.int .i64 a,.int .i64 b,.int .i64 c,.int .i64 d]⟩)]) rfl rfl (by decide) (by decide) (by decide)).trans rfl
theorem app_rect {h:Heap} {b lo:Nat} {c:List Rect} (r:Rect) (hob:h[b]?=some (rectR.row 39 c)) (hlo:lo≤b) (hc:c.length≤1000000000) :
  appendT (some ⟨39,4,32,.agg ⟨[.int .i64 0,.int .i64 0,.int .i64 0,.int .i64 0]⟩,⟨some true,some 4⟩⟩) h lo false (rectR.sl b c) (lst true [.agg ⟨[.int .i64 r.x0,.int .i64 r.y0,.int .i64 r.x1,.int .i64 r.y1]⟩])=some (rectR.sl b (c++[r]),h.set b (rectR.row 39 (c++[r]))) :=
 Rec.app (R:=rectR) (m:=[r]) rfl hob (Rec.cells_tree (R:=rectR) rfl [r]) hlo (by show (c.length+1) * 32≤2 ^ 47;omega)
theorem write_spec (T:List Slab) (hT:T.length≤10000) (hc:∀ s∈T,s.col.length≤10000):pureCall E.P (L E) 77 [lst false (slabR.vals T)]=some (lst false (rectR.vals (outT (runsF T)))):=by
 have ix:∀ (i:Nat) (hi:i<T.length),indexAddrT (.sl 126 ⟨some true,some 3⟩) (lst false (slabR.vals T)) (.int .i64 (i:Int))=some (cptr (slabR.val T[i])):=fun i hi=>Rec.index_tree rfl hi
 have eq:=fun (a b:List (Int × Int)) (ha:a.length≤1000000)=>equal_spans false false a b ha
 rw [pureCall_fn F77 rfl]
 simp -implicitDefEqProofs [r77,p77,prep_new,newK_nil s32]
 rw [LL_rec (α:=Nat × List Rect) (0,[]) (fun c=>[(3,rectR.sl 0 c.2),(4,.int .i64 c.1)]) (fun c=>[rectR.row 39 c.2])
   (fun c=>(.exit 0,[(3,rectR.sl 0 (c.2++outT (runsF (T.drop c.1)))),(4,undef)],[rectR.row 39 (c.2++outT (runsF (T.drop c.1)))])) (fun c=>c.1≤T.length∧c.2.length≤c.1 * 10000) (fun c=>T.length-c.1)]
 ·have rr:=Rec.reifyR_row (R:=rectR) (P:=E.P) (h:=[rectR.row 39 (outT (runsF T))]) (b:=0) (t:=39) (l:=outT (runsF T)) rfl s32 a32
  simp -implicitDefEqProofs [k77_3,rr]
 ·exact ⟨Nat.zero_le _,Nat.zero_le _⟩
 ·simp -implicitDefEqProofs [k77_3,Rec.sl_nil]
 ·rfl
 ·intro nx c hI ih
  obtain ⟨i,o⟩:=c
  obtain ⟨h1,h2⟩:=hI
  simp only at h1 h2
  by_cases hi:i<T.length
  ·obtain ⟨hK,hrun⟩:=runsF_drop hi
   have hci:=hc _ (List.getElem_mem hi)
   have hcs:=fun (k:Nat) (hk:k<T.length)=>hc _ (List.getElem_mem hk)
   have w1:IntKind.i64.wrap ((i:Int)+1)=(i:Int)+1:=wrap64 (by omega) (by omega)
   have hii:(i:Int)<(T.length:Int):=by omega
   obtain ⟨m,hm⟩:∃ m,m=i+cntR T[i].col (T.drop (i+1)):=⟨_,rfl⟩
   have hm1:i+1+cntR T[i].col (T.drop (i+1))=m+1:=by omega
   have hK':m<T.length:=by omega
   simp only [hm1,← hm] at hrun
   rw [hrun]
   generalize hcol:T[i].col=ci at *
   generalize hx0:T[i].x0=x0 at *
   generalize hx1:T[m].x1=x1 at *
   have hix:=ix i hi
   rw [slab_val,hcol,hx0] at hix
   have him:=ix m hK'
   rw [slab_val,hx1] at him
   have eR:=fun (o':List Rect) (hl:o'.length≤(m+1) * 10000)=>ih (m+1,o') (by show T.length-(m+1)<T.length-i;omega) ⟨by show m+1≤T.length;omega,hl⟩
   simp -implicitDefEqProofs [r77_3,k77_3,hi,Rec.vals_len,w1]
   rw [LL_rec (α:=Nat) (i+1) (fun k=>[(5,.int .i64 (k:Int))]) (fun _=>[rectR.row 39 o]) (fun _=>(.exit 2,[(5,.int .i64 ((m+1:Nat):Int))],[rectR.row 39 o]))
    (fun k=>i+1≤k∧k≤T.length∧k+cntR ci (T.drop k)=m+1) (fun k=>T.length-k)]
   ·have wm:IntKind.i64.wrap ((m:Int)+1-1)=(m:Int):=(wrap64 (by omega) (by omega)).trans (by omega)
    have wm':IntKind.i64.wrap (m:Int)=(m:Int):=wrap64 (by omega) (by omega)
    have ixc:∀ (j:Nat) (hj:j<ci.length),indexAddrT (.sl 124 ⟨some true,some 2⟩) (lst false (spanR.vals ci)) (.int .i64 (j:Int))=some (cptr (spanR.val ci[j])):=fun j hj=>Rec.index_tree rfl hj
    simp -implicitDefEqProofs [k77_5,hix,colV,Rec.vals_len]
    rw [LL_for (γ:=List Rect) ci o (fun j o'=>[(3,rectR.sl 0 o'),(39,.int .i64 j)]) (fun _ o'=>[rectR.row 39 o'])
     (fun _ rest o'=>(.exit 4,[(3,rectR.sl 0 (o'++emit ⟨x0,x1,rest⟩)),(39,undef)],[rectR.row 39 (o'++emit ⟨x0,x1,rest⟩)])) (fun j o'=>o'.length=o.length+j) (by omega) rfl]
    ·have hel:(emit ⟨x0,x1,ci⟩).length=ci.length:=List.length_map _
     have eR:=eR (o++emit ⟨x0,x1,ci⟩) (by rw [List.length_append,hel];omega)
     simp -implicitDefEqProofs [k77_3] at eR
     simp -implicitDefEqProofs [k77_8,trim_le]
     exact eR
    ·simp -implicitDefEqProofs [k77_8]
    ·rfl
    ·intro nx j o' hj _
     have:emit ⟨x0,x1,[]⟩=[]:=rfl
     simp -implicitDefEqProofs [r77_8,k77_8,hj,trim_le,this]
    ·intro nx j s rest o' hj hv hd hw ho ih
     have ixj:=ixc j hj
     rw [hv,span_val] at ixj
     have ap:=fun q=>app_rect (h:=[rectR.row 39 o',q]) (b:=0) (lo:=0) (c:=o') ⟨x0,s.1,x1,s.2⟩ rfl (Nat.le_refl _) (by omega)
     have ih:=ih (o'++[⟨x0,s.1,x1,s.2⟩]) (by simp;omega)
     rw [emit_cons,← List.append_assoc]
     simp -implicitDefEqProofs [k77_8,-List.append_assoc] at ih
     simp -implicitDefEqProofs [r77_8,k77_8,hj,ixj,hix,him,wm',b4_all,lit_rect,ap,hw,trim_cut,Rec.sl_bel,Rec.row_bel,-List.append_assoc]
     exact ih
   ·exact ⟨Nat.le_refl _,by omega,hm1⟩
   ·simp -implicitDefEqProofs [k77_5]
   ·rfl
   ·intro nx k hI ih
    obtain ⟨h3,h4,h5⟩:=hI
    by_cases hk:k<T.length
    ·have w2:IntKind.i64.wrap ((k:Int)+1)=(k:Int)+1:=wrap64 (by omega) (by omega)
     have hckk:=hcs k hk
     have hixk:=ix k hk
     rw [slab_val] at hixk
     have eqk:=eq T[k].col ci (by omega)
     rw [drop_cnt hk] at h5
     by_cases he:T[k].col=ci
     ·rw [if_pos he] at h5
      rw [he] at eqk
      have ih:=ih (k+1) (by omega) ⟨by omega,by omega,by omega⟩
      simp -implicitDefEqProofs [k77_5] at ih
      simp -implicitDefEqProofs [r77_5,k77_5,hk,Rec.vals_len,w2,hix,hixk,colV,ret0 m96,eqk,he,trim_le]
      exact ih
     ·rw [if_neg he] at h5
      have hR:((m+1:Nat):Int)=(k:Int):=by omega
      rw [hR]
      simp -implicitDefEqProofs [r77_5,k77_5,hk,Rec.vals_len,hix,hixk,colV,ret0 m96,eqk,he,trim_le]
    ·have hR:((m+1:Nat):Int)=(k:Int):=by
      have:=cntR_le ci (T.drop k)
      rw [List.length_drop] at this
      omega
     rw [hR]
     simp -implicitDefEqProofs [r77_5,k77_5,hk,Rec.vals_len,trim_le]
  ·have e:T.drop i=[]:=List.drop_of_length_le (by omega)
   have e1:outT (runsF (T.drop i))=[]:=by rw [e];rfl
   rw [e1,List.append_nil]
   simp -implicitDefEqProofs [r77_3,k77_3,hi,Rec.vals_len,trim_le]
open Rg (Rect Slab runs runsF outT emit ofL stripsL edgesX colC)
theorem ret3 {E:Env} {C:Callee} {lo:Nat} {h:Heap} {f:FuncId} (hm:E.mode f=3) {args:List Value}:retCall E C lo false f args h=(C f args h lo).map fun r=>(r.1,trim h.length [r.1] r.2):=by
 unfold retCall;rw [hm];rfl
theorem trim_no {n:Nat} {v:Value} {h:Heap} (hv:below depth n v=false):trim n [v] h=h:=by
 unfold trim
 split
 ·rfl
 ·rw [if_neg];simp [hv]
theorem frzAll_row {h h':Heap} {lo:Nat} {v u:Value} (hf:freezeV E.P depth lo h v=some (u,h')):frzAll E.P lo [v] h=some ([u],h'):=by
 unfold frzAll
 simp [List.foldlM,hf]
theorem strips_len (l:List Rect):(stripsL l).length≤2 * l.length:=by
 have h1:=Rg.edgesX_len l
 have h2:=Rg.stripL_len (colC l) (edgesX l)
 unfold stripsL
 omega
theorem stripL_mem (c:Int→List (Int × Int)):∀ (xs:List Int) s,s∈Rg.stripL c xs→s.col=c s.x0
 | [],s,h=>by cases h
 | [_],s,h=>by cases h
 | a :: b :: xs,s,h=>by
  rcases List.mem_cons.1 h with rfl | h
  ·rfl
  ·exact stripL_mem c (b :: xs) s h
theorem strips_col (l:List Rect):∀ s∈stripsL l,s.col.length≤l.length:=fun s hs=>by
 rw [stripL_mem _ _ s hs]
 exact Rg.colC_len l _
theorem lit_list1 (h:Heap) (k:Option Bool) (l:List Rect):buildSliceT (some ⟨23,1,24,.slice none 0 0,⟨some false,some 1⟩⟩) false h 1 #[(0,rectR.o k l)]=some (lst true [rectR.o k l],h):=by
 cases k <;> exact (build_lit' (n:=1) (l:=[(0,_)]) rfl rfl (by decide) (by decide) (by decide)).trans rfl
theorem lit_list2 (h:Heap) (k m:Option Bool) (l r:List Rect):buildSliceT (some ⟨23,1,24,.slice none 0 0,⟨some false,some 1⟩⟩) false h 2 #[(0,rectR.o k l),(1,rectR.o m r)]=some (lst true [rectR.o k l,rectR.o m r],h):=by
 cases k <;> cases m <;> exact (build_lit' (n:=2) (l:=[(0,_),(1,_)]) rfl rfl (by decide) (by decide) (by decide)).trans rfl
theorem strips_one (k:Option Bool) (l:List Rect) (hk:Rec.Ok k l) (hl:l.length≤1000) (h:Heap) (lo:Nat) (hlo:lo≤h.length) (hb:∀ n,h.length≤n→h.all (belowO n)=true) :
  ∃ q,retCall E (L E) lo false 78 [lst true [rectR.o k l]] h=some (slabR.sl (h.length+1) (stripsL l),h++[intR.row 3 q,slabR.row 126 (stripsL l)]):=by
 obtain ⟨q,hq⟩:=strips_spec true [(k,l)] (fun p hp=>by simp at hp;subst hp;exact hk) (by show 1≤1000;omega) (by show l.length+0≤1000;omega) (by cases k <;> rfl) h lo hlo hb
 refine ⟨q,?_⟩
 have e:allP [(k,l)]=l:=List.append_nil l
 rw [e] at hq
 rw [ret3 m78]
 show ((L E 78 [lst true [rectR.o k l]] h lo).map _)=_
 rw [show [rectR.o k l]=[(k,l)].map (fun p=>rectR.o p.1 p.2) from rfl,hq]
 show some (_,trim _ _ _)=_
 rw [trim_no]
 have hn:¬ (h.length+1<h.length):=by omega
 exact decide_eq_false hn
theorem write_row {h:Heap} {b lo:Nat} (T:List Slab) (hob:h[b]?=some (slabR.row 126 T)) (hlo:lo≤b) (hT:T.length≤10000) (hc:∀ s∈T,s.col.length≤10000) :
  ∃ h',retCall E (L E) lo false 77 [slabR.sl b T] h=some (lst false (rectR.vals (outT (runsF T))),h'):=by
 have hf:=Rec.freeze_row (R:=slabR) hob s61 a61 hlo
 refine ⟨if T.length=0 then h else h.set b .dead,?_⟩
 rw [ret4 m77,frzAll_row hf]
 show ((pureCall E.P (L E) 77 [lst false (slabR.vals T)]).map _)=_
 rw [write_spec T hT hc]
 rfl
def ofR (l:List Rect):Except Int (List Rect):=if l.all okR then if 400<l.length then .error 6 else if (ofL l).length≤200 then .ok (ofL l) else .error 6 else .error 1
def resL:Except Int (List Rect)→Value
 | .error e=>.tuple ⟨[.slice none 0 0,.int .i64 e]⟩
 | .ok l=>.tuple ⟨[lst false (rectR.vals l),.int .i64 0]⟩
theorem of_spec (k:Option Bool) (l:List Rect) (hk:Rec.Ok k l) (hl:l.length≤1000000):pureCall E.P (L E) 52 [rectR.o k l]=some (resL (ofR l)):=by
 rw [pureCall_fn F52 rfl]
 simp -implicitDefEqProofs [r52,padS,Rec.o_len hk]
 rw [LL_for (γ:=Unit) l () (fun i _=>[(8,.int .i64 i)]) (fun _ _=>[]) (fun _ rest _=>if rest.all okR then (.exit 0,[(8,undef)],[]) else (.ret,[(2,.slice none 0 0),(3,.int .i64 1),(8,undef)],[])) (fun _ _=>True) (by omega) trivial]
 ·unfold ofR
  cases ha:l.all okR
  ·simp -implicitDefEqProofs [k52_2,resL]
  ·by_cases h4:400<l.length
   ·have h4i:400<(l.length:Int):=by omega
    simp -implicitDefEqProofs [k52_2,resL,h4,h4i,Rec.o_len hk]
   ·have h4':¬ (400<(l.length:Int)):=by omega
    obtain ⟨q,hs⟩:=strips_one k l hk (by omega) [] 0 (Nat.le_refl _) fun _ _=>rfl
    obtain ⟨h',hw⟩:=write_row (h:=[intR.row 3 q,slabR.row 126 (stripsL l)]) (b:=1) (lo:=0) (stripsL l) rfl (Nat.zero_le _) (by have:=strips_len l;omega) (fun s hs=>by have:=strips_col l s hs;omega)
    have e:outT (runsF (stripsL l))=ofL l:=rfl
    rw [e] at hw
    have hlim:=limited_spec false (ofL l)
    by_cases h2:(ofL l).length≤200 <;> simp -implicitDefEqProofs [k52_2,resL,h4,h4',Rec.o_len hk,lit_list1,hs,hw,ret1s m76,hlim,h2]
 ·simp -implicitDefEqProofs [k52_2]
 ·rfl
 ·intro nx i c hi _
  simp -implicitDefEqProofs [r52_2,k52_2,hi,trim_le]
 ·intro nx i r rest c hi hv hd hw _ ih
  have ih:=ih () trivial
  have ixi:=Rec.o_index (R:=rectR) (t:=39) (kk:=.i64) (s:=4) rfl hk hi
  rw [hv] at ixi
  have hr:=right_s r
  cases h:okR r
  ·simp -implicitDefEqProofs [r52_2,k52_2,hi,ixi,rect_val,ret0 m75,hr,h,trim_cut,Rec.o_bel]
  ·simp -implicitDefEqProofs [k52_2] at ih
   simp -implicitDefEqProofs [r52_2,k52_2,hi,ixi,rect_val,ret0 m75,hr,h,hw,trim_cut,Rec.o_bel]
   exact ih
open Rg (Rect Slab runs runsF outT emit ofL stripsL edgesX colC opL opC mergeC keepS addS sortU ends stripL)
def regB (l:List Rect):Bool:=match ofR l with
 | .ok m=>decide (m=l)
 | .error _=>false
theorem right2_spec (k:Option Bool) (l:List Rect) (hk:Rec.Ok k l) (hl:l.length≤1000000):pureCall E.P (L E) 33 [rectR.o k l]=some (.bool (regB l)):=by
 have ho:=of_spec k l hk hl
 have hf:freezeV E.P depth 0 [] (rectR.o k l)=some (rectR.o k l,[]):=frz_set8 Rec.o_set Rec.o_one
 have hr:retCall E (L E) 0 false 52 [rectR.o k l] []=some (resL (ofR l),[]):=by
  rw [ret4 m52,frzAll_row hf]
  show ((pureCall E.P (L E) 52 [rectR.o k l]).map _)=_
  rw [ho];rfl
 rw [pureCall_fn F33 rfl]
 unfold regB
 have hle:∀ m,ofR l=.ok m→m.length≤200:=fun m h=>by
  unfold ofR at h
  split at h
  ·split at h
   ·cases h
   ·split at h
    ·cases h;assumption
    ·cases h
  ·cases h
 have hne:∀ e,ofR l=.error e→e=1∨e=6:=fun m h=>by
  unfold ofR at h
  split at h
  ·split at h
   ·cases h;exact .inr rfl
   ·split at h
    ·cases h
    ·cases h;exact .inr rfl
  ·cases h;exact .inl rfl
 cases h:ofR l with
 | error e =>
  rw [h] at hr
  have e0:¬ (e=0):=by have:=hne e h;omega
  simp -implicitDefEqProofs [r33,p33,hr,resL,e0]
 | ok m =>
  rw [h] at hr
  have he:=equal_rects (some false) k m l Rec.ok_some hk (by have:=hle m h;omega)
  rw [show rectR.o (some false) m=lst false (rectR.vals m) from rfl] at he
  simp -implicitDefEqProofs [r33,p33,hr,resL,ret0 m53,Rec.o_reify,he]
theorem ofL_ok' {l:List Rect} (h:l.all okR=true):∀ r∈l,r.y0<r.y1:=fun r hr=>by
 have:=okR_iff.1 (List.all_eq_true.1 h r hr)
 unfold Rect.inBox at this
 omega
theorem regB_iff {l:List Rect}:regB l=true↔l.all okR=true∧l.length≤200∧Rg.Form l:=by
 unfold regB ofR
 by_cases ha:l.all okR=true
 ·have hy:=ofL_ok' ha
  rw [if_pos ha]
  by_cases h4:400<l.length
  ·rw [if_pos h4];simp;omega
  ·rw [if_neg h4]
   by_cases h2:(ofL l).length≤200
   ·rw [if_pos h2]
    simp only [decide_eq_true_eq]
    constructor
    ·intro e
     exact ⟨ha,e ▸ h2,e ▸ (Rg.ofL_ok hy).1⟩
    ·intro ⟨_,_,hf⟩
     exact (Rg.ofL_ok hy).1.ext hf (Rg.ofL_ok hy).2
   ·rw [if_neg h2]
    simp only [Bool.false_eq_true,false_iff]
    rintro ⟨_,hl,hf⟩
    rw [(Rg.ofL_ok hy).1.ext hf (Rg.ofL_ok hy).2] at h2
    omega
 ·rw [if_neg ha];simp [ha]
open Rg (Rect areaL cell)
def orF (a b:Bool):Bool:=a || b
def andF (a b:Bool):Bool:=a && b
def subF (a b:Bool):Bool:=a && !b
def firstP (p:Rect→Bool) (l:List Rect):Nat→Int
 | i=>match l with
  | []=>-1
  | r :: l=>if p r then i else firstP p l (i+1)
theorem firstP_nonneg (p:Rect→Bool):∀ (l:List Rect) (i:Nat),decide (0≤firstP p l i)=l.any p
 | [],i=>rfl
 | r :: l,i=>by
  show decide (0≤if p r then (i:Int) else firstP p l (i+1))=(p r || l.any p)
  cases h:p r
  ·simpa using firstP_nonneg p l (i+1)
  ·simp
theorem firstP_none (p:Rect→Bool):∀ (l:List Rect) (i:Nat),l.any p=false→firstP p l i = -1
 | [],i,_=>rfl
 | r :: l,i,h=>by
  rw [List.any_cons,Bool.or_eq_false_iff] at h
  show (if p r then (i:Int) else firstP p l (i+1)) = -1
  rw [h.1]
  exact firstP_none p l (i+1) h.2
theorem flat_take {α:Type} {R:Rec α} {l:List α} {i:Nat} (h:i≤l.length):(R.flat l).take (i * (R.m+1))=R.flat (l.take i):=by
 have e:R.flat l=R.flat (l.take i)++R.flat (l.drop i):=by rw [← Rec.flat_app,List.take_append_drop]
 have hl:(R.flat (l.take i)).length=i * (R.m+1):=by rw [Rec.flat_len,List.length_take,Nat.min_eq_left h]
 rw [e,← hl,List.take_left]
theorem flat_splice {α:Type} {R:Rec α} {l:List α} {i:Nat} {a:α} (h:i<l.length):splice (R.flat l) (i * (R.m+1)) (R.enc a)=R.flat (l.set i a):=by
 unfold splice
 have e:i * (R.m+1)+(R.enc a).length=(i+1) * (R.m+1):=by rw [R.len,Nat.add_mul,Nat.one_mul]
 rw [e,flat_take (by omega),Rec.flat_drop,List.set_eq_take_append_cons_drop,if_pos h,Rec.flat_app]
 show _=R.flat (l.take i)++(R.enc a++R.flat (l.drop (i+1)))
 rw [List.append_assoc]
namespace Rec
variable {α:Type}
def mrow (R:Rec α) (t:TypeId) (l:List α):AObj:=.cells t (R.flat l) 0
def msl (R:Rec α) (b:Nat) (l:List α):Value:=.slice (some ⟨b,0,none⟩) l.length l.length
def mat (R:Rec α) (b i j:Nat):Value:=.pointer (some ⟨b,i * (R.m+1)+j,none⟩)
variable {R:Rec α}
theorem make_rec {el:El} {h:Heap} {n:Nat} {k k':IntKind} {a:α} (hel:el.size=R.m+1) (hz:el.z.cells=⟨R.enc a⟩) (hn:n≤1000000) (hb:el.bytes≤1000) :
  makeSliceT (some el) h (.int k (n:Int)) (.int k' (n:Int))=some (R.msl h.length (List.replicate n a),h++[R.mrow el.e (List.replicate n a)]):=by
 have hm:el.bytes * n≤140737488355328:=Nat.le_trans (Nat.mul_le_mul hb hn) (by omega)
 have hs:el.z.cells.size≠0:=by
  rw [hz]
  show (R.enc a).length≠0
  rw [R.len];omega
 unfold makeSliceT
 simp only [Option.bind_some]
 rw [if_pos ⟨by omega,by omega,by omega,by omega,hs⟩]
 simp only [Int.toNat_natCast,hel]
 rw [zeros_row hz]
 unfold msl mrow
 rw [List.length_replicate]
theorem msl_eq {b:Nat} {c d:List α} (h:c.length=d.length):R.msl b c=R.msl b d:=by unfold msl;rw [h]
theorem mindex {h0:Nat} {t:TypeId} {g:Option Bool} {b:Nat} {l:List α} {i:Nat} {k:IntKind} (hk:h0=R.m+1) (h1:i<l.length):indexAddrT (.sl t ⟨g,some h0⟩) (R.msl b l) (.int k (i:Int))=some (R.mat b i 0):=by
 subst hk
 unfold msl
 rw [index_slice,if_pos ⟨by omega,by omega⟩]
 simp [shift,mat]
theorem mstore {h:Heap} {b lo n:Nat} {t:TypeId} {l:List α} {i:Nat} {a:α} (hn:n=R.m+1) (hob:h[b]?=some (R.mrow t l)) (hlo:lo≤b) (h1:i<l.length) :
  storeT (some n) h lo (R.val a) (R.mat b i 0)=some (h.set b (R.mrow t (l.set i a))):=by
 subst hn
 unfold Rec.mat
 have hv:cellsOf (R.val a)=some (R.enc a):=rfl
 rw [store_ptr,hv,Option.bind_some,if_pos (by rw [R.len])]
 have hin:=Rec.in_row (R:=R) h1
 have hob':h[b]?=some (.cells t (R.flat l) 0):=hob
 unfold wrN
 show (match h[b]? with | some (.cells t c g)=>_ | _=>none)=_
 rw [hob']
 show (if _ then _ else none)=_
 rw [if_pos ⟨hlo,rfl,by rw [R.len];omega,by rw [R.len,Rec.flat_len];simpa using hin⟩]
 show some (h.set b (.cells t (splice (R.flat l) (i * (R.m+1)+0) (R.enc a)) 0))=_
 rw [Nat.add_zero,flat_splice h1];rfl
theorem mreify {P:Program} {h:Heap} {b n:Nat} {t:TypeId} {l:List α} (hob:h[b]?=some (R.mrow t l)) (hs:szOf P t=some (R.m+1)) (ha:aggT P t=some true):reify P (n+1) h (R.msl b l)=some (lst false (R.vals l)):=by
 unfold msl
 rw [reify_slice]
 by_cases h0:l.length=0
 ·have:l=[]:=List.eq_nil_of_length_eq_zero h0
  subst this;rfl
 ·rw [if_neg h0]
  show reifyS P n h h[b]? _ _=_
  rw [hob]
  show reifyS P n h (some (.cells t (R.flat l) 0)) _ _=_
  rw [reifyS_cells,hs,Option.bind_some,if_pos ⟨rfl,by omega,by rw [flat_len];simp⟩]
  have e:((R.flat l).drop 0).take (l.length * (R.m+1))=R.flat l:=by rw [List.drop_zero,List.take_of_length_le (by rw [flat_len];exact Nat.le_refl _)]
  rw [e,reifyC_set (flat_set l),Option.bind_some,elems hs ha];rfl
end Rec
section
variable {P:Program} {t:TypeId}
theorem rem_nat {m n:Nat} (hn:0<n):aBin P .rem t (.int .i64 (m:Int)) (.int .i64 (n:Int))=some (.int .i64 ((m % n:Nat):Int)):=by
 show (if (n:Int)=0 then none else some (Value.int .i64 ((m:Int).tmod n)))=_
 rw [if_neg (by omega),Int.tmod_eq_emod_of_nonneg (by omega)]
 rfl
end
end Go.Proofs.YtnhdabelepjgbaaGreat.Bm
namespace Go.Proofs.YtnhdabelepjgbaaGreat.Rg
theorem canS_all:∀ {c:List (Int × Int)} {b:Int},canS b c→∀ s∈c,s.1<s.2
 | [],_,_,s,hs=>by cases hs
 | (f,t) :: c,b,h,s,hs=>by
  rcases List.mem_cons.1 hs with rfl | hs
  ·exact h.2.1
  ·exact canS_all h.2.2 s hs
theorem Can.all {c:List (Int × Int)} (h:Can c):∀ s∈c,s.1<s.2:=by
 obtain ⟨b,hb,_⟩:=low_ex c []
 exact canS_all (canS_ex h b hb)
theorem Form.pos {l:List Rect} (h:Form l):∀ r∈l,r.x0<r.x1∧r.y0<r.y1:=by
 obtain ⟨b,T,hT,rfl⟩:=h
 intro r hr
 obtain ⟨s,hs,hr⟩:=List.mem_flatMap.1 hr
 obtain ⟨c,hc,rfl⟩:=List.mem_map.1 hr
 have h1:=(canT_facts hT).2 s hs
 exact ⟨h1.2.1,h1.2.2.all c hc⟩
theorem cell_true {l:List Rect} {x y:Int}:cell l x y=true↔∃ r∈l,r.x0≤x∧x<r.x1∧r.y0≤y∧y<r.y1:=by
 unfold cell Rect.has
 rw [List.any_eq_true]
 simp only [Bool.and_eq_true,decide_eq_true_eq]
 exact ⟨fun ⟨r,hr,h⟩=>⟨r,hr,h.1.1,h.1.2,h.2.1,h.2.2⟩,fun ⟨r,hr,h1,h2,h3,h4⟩=>⟨r,hr,⟨h1,h2⟩,h3,h4⟩⟩
theorem Form.box {l:List Rect} (h:Form l) {n:Int} (hb:∀ x y,cell l x y=true→0≤x∧x<n∧0≤y∧y<n):∀ r∈l,r.inBox n:=by
 intro r hr
 have hp:=h.pos r hr
 have h1:=hb r.x0 r.y0 (cell_true.2 ⟨r,hr,by omega,by omega,by omega,by omega⟩)
 have h2:=hb (r.x1-1) (r.y1-1) (cell_true.2 ⟨r,hr,by omega,by omega,by omega,by omega⟩)
 unfold Rect.inBox
 omega
theorem cell_box {l:List Rect} {n:Int} (h:∀ r∈l,r.inBox n) {x y:Int} (hc:cell l x y=true):0≤x∧x<n∧0≤y∧y<n:=by
 obtain ⟨r,hr,h1,h2,h3,h4⟩:=cell_true.1 hc
 have:=h r hr
 unfold Rect.inBox at this
 omega
end Go.Proofs.YtnhdabelepjgbaaGreat.Rg
namespace Go.Proofs.YtnhdabelepjgbaaGreat.Rg
def scan (gt:Nat→Bool):Nat→Nat
 | 0=>0
 | k+1=>if gt k then scan gt k else k+1
theorem scan_le (gt:Nat→Bool):∀ n,scan gt n≤n
 | 0=>Nat.le_refl _
 | n+1=>by
  unfold scan
  split
  ·exact Nat.le_succ_of_le (scan_le gt n)
  ·exact Nat.le_refl _
theorem scan_gt (gt:Nat→Bool):∀ n k,scan gt n≤k→k<n→gt k=true
 | 0,k,_,h=>by omega
 | n+1,k,h1,h2=>by
  unfold scan at h1
  split at h1
  ·rename_i h
   by_cases e:k=n
   ·subst e;exact h
   ·exact scan_gt gt n k h1 (by omega)
  ·omega
theorem scan_stop (gt:Nat→Bool):∀ n,0<scan gt n→gt (scan gt n-1)=false
 | 0,h=>by simp [scan] at h
 | n+1,h=>by
  unfold scan at h ⊢
  split at h
  ·rename_i hg
   rw [if_pos hg]
   exact scan_stop gt n h
  ·rename_i hg
   rw [if_neg hg]
   simpa using hg
def putAt {α:Type} (o:List α) (k:Nat) (z:α):List α:=o.take k++z :: o.drop k
theorem putAt_perm {α:Type} (o:List α) (k:Nat) (z:α):(putAt o k z).Perm (z :: o):=by
 unfold putAt
 refine List.perm_middle.trans ?_
 rw [List.take_append_drop]
theorem putAt_len {α:Type} (o:List α) (k:Nat) (z:α):(putAt o k z).length=o.length+1:=by
 rw [(putAt_perm o k z).length_eq];rfl
theorem putAt_sorted {α:Type} {key:α→Int} {o:List α} {z:α} (h:o.Pairwise fun a b=>key a≤key b) :
  (putAt o (scan (fun j=>decide (key z<(o.map key).getD j 0)) o.length) z).Pairwise fun a b=>key a≤key b:=by
 have hle:=scan_le (fun j=>decide (key z<(o.map key).getD j 0)) o.length
 have hgt:=scan_gt (fun j=>decide (key z<(o.map key).getD j 0)) o.length
 have hst:=scan_stop (fun j=>decide (key z<(o.map key).getD j 0)) o.length
 generalize scan (fun j=>decide (key z<(o.map key).getD j 0)) o.length=k at *
 have kj:∀ j (hj:j<o.length),(o.map key).getD j 0=key o[j]:=fun j hj=>by
  rw [List.getD_eq_getElem?_getD,List.getElem?_map,List.getElem?_eq_getElem hj];rfl
 unfold putAt
 rw [List.pairwise_append]
 refine ⟨h.sublist (List.take_sublist _ _),List.pairwise_cons.2 ⟨fun b hb=>?_,h.sublist (List.drop_sublist _ _)⟩,fun a ha b hb=>?_⟩
 ·obtain ⟨j,hj,rfl⟩:=List.mem_iff_getElem.1 hb
  rw [List.getElem_drop]
  rw [List.length_drop] at hj
  have:=hgt (k+j) (by omega) (by omega)
  rw [decide_eq_true_eq,kj _ (by omega)] at this
  omega
 ·have ha':key a≤key z:=by
   obtain ⟨j,hj,rfl⟩:=List.mem_iff_getElem.1 ha
   rw [List.getElem_take]
   rw [List.length_take] at hj
   have h0:=hst (by omega)
   rw [decide_eq_false_iff_not,kj _ (by omega)] at h0
   by_cases e:j=k-1
   ·subst e;omega
   ·have:=List.pairwise_iff_getElem.1 h j (k-1) (by omega) (by omega) (by omega)
    omega
  rcases List.mem_cons.1 hb with rfl | hb
  ·exact ha'
  ·obtain ⟨j,hj,rfl⟩:=List.mem_iff_getElem.1 hb
   rw [List.getElem_drop]
   rw [List.length_drop] at hj
   have:=hgt (k+j) (by omega) (by omega)
   rw [decide_eq_true_eq,kj _ (by omega)] at this
   omega
def insN (o:List Int) (z:Int):List Int :=
 let k:=scan (fun j=>decide (z<o.getD j 0)) o.length
 if 0<k∧o.getD (k-1) 0=z then o else putAt o k z
theorem insN_eq {o:List Int} (h:o.Pairwise (· < ·)) (z:Int):insN o z=insU z o:=by
 refine asc_ext ?_ (insU_asc h) fun w=>?_
 ·unfold insN
  have hle:=scan_le (fun j=>decide (z<o.getD j 0)) o.length
  have hgt:=scan_gt (fun j=>decide (z<o.getD j 0)) o.length
  have hst:=scan_stop (fun j=>decide (z<o.getD j 0)) o.length
  simp only
  generalize scan (fun j=>decide (z<o.getD j 0)) o.length=k at *
  have kj:∀ j (hj:j<o.length),o.getD j 0=o[j]:=fun j hj=>by
   rw [List.getD_eq_getElem?_getD,List.getElem?_eq_getElem hj];rfl
  split
  ·exact h
  ·rename_i hne
   unfold putAt
   rw [List.pairwise_append]
   have ha:∀ a∈o.take k,a<z:=fun a ha=>by
    obtain ⟨j,hj,rfl⟩:=List.mem_iff_getElem.1 ha
    rw [List.getElem_take]
    rw [List.length_take] at hj
    have h0:=hst (by omega)
    rw [decide_eq_false_iff_not] at h0
    have h1:¬ o.getD (k-1) 0=z:=fun e=>hne ⟨by omega,e⟩
    rw [kj _ (by omega)] at h0 h1
    by_cases e:j=k-1
    ·subst e;omega
    ·have:=List.pairwise_iff_getElem.1 h j (k-1) (by omega) (by omega) (by omega)
     omega
   have hb:∀ b∈o.drop k,z<b:=fun b hb=>by
    obtain ⟨j,hj,rfl⟩:=List.mem_iff_getElem.1 hb
    rw [List.getElem_drop]
    rw [List.length_drop] at hj
    have:=hgt (k+j) (by omega) (by omega)
    rw [decide_eq_true_eq,kj _ (by omega)] at this
    exact this
   refine ⟨h.sublist (List.take_sublist _ _),List.pairwise_cons.2 ⟨hb,h.sublist (List.drop_sublist _ _)⟩,fun a haa b hbb=>?_⟩
   rcases List.mem_cons.1 hbb with rfl | hbb
   ·exact ha a haa
   ·have:=ha a haa;have:=hb b hbb;omega
 ·rw [insU_mem]
  unfold insN
  simp only
  split
  ·rename_i h1
   have hle:=scan_le (fun j=>decide (z<o.getD j 0)) o.length
   constructor
   ·exact .inr
   ·rintro (rfl | hw)
    ·obtain ⟨h0,h1⟩:=h1
     rw [List.getD_eq_getElem?_getD,List.getElem?_eq_getElem (by omega)] at h1
     have h1:o[scan (fun j=>decide (w<o.getD j 0)) o.length-1]'(by omega)=w:=h1
     rw [← h1];exact List.getElem_mem _
    ·exact hw
  ·rw [(putAt_perm o _ z).mem_iff,List.mem_cons]
theorem insN_fold:∀ (l o:List Int),o.Pairwise (· < ·)→(l.foldl insN o).Pairwise (· < ·)∧∀ w,w∈l.foldl insN o↔w∈l∨w∈o
 | [],o,h=>⟨h,fun w=>by simp⟩
 | z :: l,o,h=>by
  have e:=insN_eq h z
  have h1:(insN o z).Pairwise (· < ·):=by rw [e];exact insU_asc h
  obtain ⟨h2,h3⟩:=insN_fold l (insN o z) h1
  refine ⟨h2,fun w=>?_⟩
  rw [List.foldl_cons,h3,e,insU_mem,List.mem_cons]
  exact ⟨fun h=>h.elim (fun h=>.inl (.inr h)) fun h=>h.elim (fun h=>.inl (.inl h)) .inr,fun h=>h.elim (fun h=>h.elim (fun h=>.inr (.inl h)) .inl) fun h=>.inr (.inr h)⟩
theorem insN_sortU (l:List Int):l.foldl insN []=sortU l:=by
 obtain ⟨h1,h2⟩:=insN_fold l [] .nil
 refine asc_ext h1 (sortU_asc l) fun w=>?_
 rw [h2,sortU_mem];simp
def inE:List Int→Int→Bool
 | [],_=>false
 | e :: l,y=>xor (decide (e≤y)) (inE l y)
theorem inE_low {l:List Int} {y:Int} (h:∀ e∈l,y<e):inE l y=false:=by
 induction l with
 | nil=>rfl
 | cons e l ih =>
  have he:=h e (by simp)
  have h1:¬ e≤y:=by omega
  unfold inE
  rw [ih fun e he=>h e (by simp [he])]
  simp [h1]
theorem inE_ends:∀ {c:List (Int × Int)} {b:Int},canS b c→∀ y,inE (ends c) y=hasS c y
 | [],_,_,_=>rfl
 | (f,t) :: c,b,h,y=>by
  have ih:=inE_ends h.2.2 y
  have h2:=h.2.1
  show xor (decide (f≤y)) (xor (decide (t≤y)) (inE (ends c) y))=((decide (f≤y) && decide (y<t)) || hasS c y)
  rw [ih]
  by_cases h1:f≤y
  ·by_cases h3:t≤y
   ·have h4:¬ y<t:=by omega
    simp [h1,h3,h4]
   ·have h4:y<t:=by omega
    rw [canS_low h.2.2 (by omega)]
    simp [h1,h3,h4]
  ·have h3:¬ t≤y:=by omega
   simp [h1,h3]
def pairs:List Int→List (Int × Int)
 | f :: t :: l=>(f,t) :: pairs l
 | _=>[]
theorem pairs_ends (c:List (Int × Int)):pairs (ends c)=c:=by
 induction c with
 | nil=>rfl
 | cons s c ih=>show (s.1,s.2) :: pairs (ends c)=_;rw [ih]
theorem ends_pairs:∀ {l:List Int},l.length % 2=0→ends (pairs l)=l
 | [],_=>rfl
 | [_],h=>by simp at h
 | f :: t :: l,h=>by
  show f :: t :: ends (pairs l)=_
  rw [ends_pairs (by simp at h;omega)]
theorem pairs_can:∀ {l:List Int} {b:Int},l.Pairwise (· < ·)→(∀ e∈l,b<e)→canS b (pairs l)
 | [],_,_,_=>trivial
 | [_],_,_,_=>trivial
 | f :: t :: l,b,h,hb=>by
  rw [List.pairwise_cons,List.pairwise_cons] at h
  exact ⟨hb f (by simp),h.1 t (by simp),pairs_can h.2.2 h.2.1⟩
def swp (f:Bool→Bool→Bool):List Int→List Int→Bool→Bool→Bool→List Int
 | [],[],_,_,_=>[]
 | a :: A,[],p,q,w=>(if f (!p) q=w then [] else [a])++swp f A [] (!p) q (f (!p) q)
 | [],b :: B,p,q,w=>(if f p (!q)=w then [] else [b])++swp f [] B p (!q) (f p (!q))
 | a :: A,b :: B,p,q,w =>
  if a<b then (if f (!p) q=w then [] else [a])++swp f A (b :: B) (!p) q (f (!p) q)
  else if b<a then (if f p (!q)=w then [] else [b])++swp f (a :: A) B p (!q) (f p (!q))
  else (if f (!p) (!q)=w then [] else [a])++swp f A B (!p) (!q) (f (!p) (!q))
theorem swp_low (f:Bool→Bool→Bool):∀ (A B:List Int) (p q w:Bool) (m:Int),(∀ e∈A,m<e)→(∀ e∈B,m<e)→∀ e∈swp f A B p q w,m<e
 | [],[],_,_,_,_,_,_,e,h=>by simp [swp] at h
 | a :: A,[],p,q,w,m,h1,h2,e,h=>by
  rw [swp,List.mem_append] at h
  rcases h with h | h
  ·split at h
   ·cases h
   ·rw [List.mem_singleton.1 h];exact h1 a (by simp)
  ·exact swp_low f A [] _ _ _ m (fun e he=>h1 e (by simp [he])) h2 e h
 | [],b :: B,p,q,w,m,h1,h2,e,h=>by
  rw [swp,List.mem_append] at h
  rcases h with h | h
  ·split at h
   ·cases h
   ·rw [List.mem_singleton.1 h];exact h2 b (by simp)
  ·exact swp_low f [] B _ _ _ m h1 (fun e he=>h2 e (by simp [he])) e h
 | a :: A,b :: B,p,q,w,m,h1,h2,e,h=>by
  have g1:∀ e∈A,m<e:=fun e he=>h1 e (by simp [he])
  have g2:∀ e∈B,m<e:=fun e he=>h2 e (by simp [he])
  rw [swp] at h
  split at h
  ·rcases List.mem_append.1 h with h | h
   ·split at h
    ·cases h
    ·rw [List.mem_singleton.1 h];exact h1 a (by simp)
   ·exact swp_low f A (b :: B) _ _ _ m g1 h2 e h
  ·split at h
   ·rcases List.mem_append.1 h with h | h
    ·split at h
     ·cases h
     ·rw [List.mem_singleton.1 h];exact h2 b (by simp)
    ·exact swp_low f (a :: A) B _ _ _ m h1 g2 e h
   ·rcases List.mem_append.1 h with h | h
    ·split at h
     ·cases h
     ·rw [List.mem_singleton.1 h];exact h1 a (by simp)
    ·exact swp_low f A B _ _ _ m g1 g2 e h
termination_by A B=>A.length+B.length
theorem step_asc {x:Int} {c:Prop} [Decidable c] {L:List Int} (h:L.Pairwise (· < ·)) (hx:∀ e∈L,x<e):((if c then [] else [x])++L).Pairwise (· < ·):=by
 split
 ·exact h
 ·exact List.pairwise_cons.2 ⟨hx,h⟩
theorem step_in {x y:Int} {s w:Bool} {L:List Int} (hx:∀ e∈L,x<e) {r:Bool} (h:x≤y→inE L y=xor s r) (hr:y<x→r=w):inE ((if s=w then [] else [x])++L) y=xor w r:=by
 by_cases hy:y<x
 ·have h1:inE ((if s=w then [] else [x])++L) y=false:=inE_low fun e he=>by
   rcases List.mem_append.1 he with he | he
   ·split at he
    ·cases he
    ·rw [List.mem_singleton.1 he];exact hy
   ·have:=hx e he;omega
  rw [h1,hr hy];cases w <;> rfl
 ·have h1:x≤y:=by omega
  have h:=h h1
  split
  ·rename_i e;subst e;exact h
  ·rename_i e
   show xor (decide (x≤y)) (inE L y)=_
   rw [h,decide_eq_true h1]
   cases s <;> cases w <;> simp_all
theorem inE_at {a y:Int} {A:List Int} (h:a≤y) (p:Bool):xor p (inE (a :: A) y)=xor (!p) (inE A y):=by
 show xor p (xor (decide (a≤y)) (inE A y))=_
 rw [decide_eq_true h]
 cases p <;> cases inE A y <;> rfl
theorem xor_low {A:List Int} {y:Int} (h:∀ e∈A,y<e) (p:Bool):xor p (inE A y)=p:=by rw [inE_low h,Bool.xor_false]
theorem swp_ok (f:Bool→Bool→Bool):∀ (A B:List Int) (p q:Bool),A.Pairwise (· < ·)→B.Pairwise (· < ·) →
  (swp f A B p q (f p q)).Pairwise (· < ·)∧∀ y,inE (swp f A B p q (f p q)) y=xor (f p q) (f (xor p (inE A y)) (xor q (inE B y)))
 | [],[],p,q,_,_=>⟨by simp [swp],fun y=>by simp [swp,inE]⟩
 | a :: A,[],p,q,hA,hB=>by
  have hA':=List.pairwise_cons.1 hA
  obtain ⟨i1,i2⟩:=swp_ok f A [] (!p) q hA'.2 hB
  have hlow:=swp_low f A [] (!p) q (f (!p) q) a hA'.1 (fun e he=>by cases he)
  refine ⟨by rw [swp];exact step_asc i1 hlow,fun y=>?_⟩
  rw [swp]
  refine step_in hlow (fun hy=>?_) fun hy=>?_
  ·rw [i2,inE_at hy]
  ·have la:∀ e∈a :: A,y<e:=fun e he=>by
    rcases List.mem_cons.1 he with rfl | he
    ·exact hy
    ·have:=hA'.1 e he;omega
   rw [xor_low la,xor_low (A:=[]) (fun e he=>by cases he)]
 | [],b :: B,p,q,hA,hB=>by
  have hB':=List.pairwise_cons.1 hB
  obtain ⟨i1,i2⟩:=swp_ok f [] B p (!q) hA hB'.2
  have hlow:=swp_low f [] B p (!q) (f p (!q)) b (fun e he=>by cases he) hB'.1
  refine ⟨by rw [swp];exact step_asc i1 hlow,fun y=>?_⟩
  rw [swp]
  refine step_in hlow (fun hy=>?_) fun hy=>?_
  ·rw [i2,inE_at hy]
  ·have lb:∀ e∈b :: B,y<e:=fun e he=>by
    rcases List.mem_cons.1 he with rfl | he
    ·exact hy
    ·have:=hB'.1 e he;omega
   rw [xor_low lb,xor_low (A:=[]) (fun e he=>by cases he)]
 | a :: A,b :: B,p,q,hA,hB=>by
  have hA':=List.pairwise_cons.1 hA
  have hB':=List.pairwise_cons.1 hB
  have la:∀ y,y<a→∀ e∈a :: A,y<e:=fun y hy e he=>by
   rcases List.mem_cons.1 he with rfl | he
   ·exact hy
   ·have:=hA'.1 e he;omega
  have lb:∀ y,y<b→∀ e∈b :: B,y<e:=fun y hy e he=>by
   rcases List.mem_cons.1 he with rfl | he
   ·exact hy
   ·have:=hB'.1 e he;omega
  by_cases h1:a<b
  ·obtain ⟨i1,i2⟩:=swp_ok f A (b :: B) (!p) q hA'.2 hB
   have hlow:=swp_low f A (b :: B) (!p) q (f (!p) q) a hA'.1 (lb a h1)
   refine ⟨by rw [swp,if_pos h1];exact step_asc i1 hlow,fun y=>?_⟩
   rw [swp,if_pos h1]
   refine step_in hlow (fun hy=>?_) fun hy=>?_
   ·rw [i2,inE_at hy]
   ·rw [xor_low (la y hy),xor_low (lb y (by omega))]
  ·by_cases h2:b<a
   ·obtain ⟨i1,i2⟩:=swp_ok f (a :: A) B p (!q) hA hB'.2
    have hlow:=swp_low f (a :: A) B p (!q) (f p (!q)) b (la b h2) hB'.1
    refine ⟨by rw [swp,if_neg h1,if_pos h2];exact step_asc i1 hlow,fun y=>?_⟩
    rw [swp,if_neg h1,if_pos h2]
    refine step_in hlow (fun hy=>?_) fun hy=>?_
    ·rw [i2,inE_at (A:=B) hy]
    ·rw [xor_low (la y (by omega)),xor_low (lb y hy)]
   ·have hab:a=b:=by omega
    subst hab
    obtain ⟨i1,i2⟩:=swp_ok f A B (!p) (!q) hA'.2 hB'.2
    have hlow:=swp_low f A B (!p) (!q) (f (!p) (!q)) a hA'.1 hB'.1
    refine ⟨by rw [swp,if_neg h1,if_neg h2];exact step_asc i1 hlow,fun y=>?_⟩
    rw [swp,if_neg h1,if_neg h2]
    refine step_in hlow (fun hy=>?_) fun hy=>?_
    ·rw [i2,inE_at (A:=A) hy,inE_at (A:=B) hy]
    ·rw [xor_low (la y hy),xor_low (lb y hy)]
termination_by A B=>A.length+B.length
theorem inE_len:∀ {l:List Int} {y:Int},(∀ e∈l,e≤y)→inE l y=decide (l.length % 2=1)
 | [],_,_=>rfl
 | e :: l,y,h=>by
  unfold inE
  rw [inE_len fun e he=>h e (by simp [he]),decide_eq_true (h e (by simp))]
  rw [List.length_cons]
  by_cases q:l.length % 2=1
  ·have:¬ (l.length+1) % 2=1:=by omega
   simp [q,this]
  ·have:(l.length+1) % 2=1:=by omega
   simp [q,this]
theorem upper (l:List Int):∃ m,∀ e∈l,e≤m:=by
 induction l with
 | nil=>exact ⟨0,fun e he=>by cases he⟩
 | cons a l ih =>
  obtain ⟨m,h⟩:=ih
  refine ⟨max a m,fun e he=>?_⟩
  rcases List.mem_cons.1 he with rfl | he
  ·omega
  ·have:=h e he;omega
theorem lower (l:List Int):∃ m,∀ e∈l,m<e:=by
 induction l with
 | nil=>exact ⟨0,fun e he=>by cases he⟩
 | cons a l ih =>
  obtain ⟨m,h⟩:=ih
  refine ⟨min (a-1) m,fun e he=>?_⟩
  rcases List.mem_cons.1 he with rfl | he
  ·omega
  ·have:=h e he;omega
theorem Can.canS {c:List (Int × Int)} (h:Can c):∃ b,canS b c:=by
 obtain ⟨b,hb,_⟩:=low_ex c []
 exact ⟨b,canS_ex h b hb⟩
theorem swp_col (f:Bool→Bool→Bool) (hf:f false false=false) {a b c:List (Int × Int)} (ha:Can a) (hb:Can b) (hc:Can c) (h:∀ y,hasS c y=f (hasS a y) (hasS b y)) :
  swp f (ends a) (ends b) false false false=ends c:=by
 obtain ⟨ba,ha'⟩:=ha.canS
 obtain ⟨bb,hb'⟩:=hb.canS
 have key:=swp_ok f (ends a) (ends b) false false (ends_asc ha').1 (ends_asc hb').1
 rw [hf] at key
 obtain ⟨h1,h2⟩:=key
 generalize swp f (ends a) (ends b) false false false=L at *
 have h3:∀ y,inE L y=f (hasS a y) (hasS b y):=fun y=>by rw [h2,inE_ends ha',inE_ends hb'];simp
 have he:L.length % 2=0:=by
  obtain ⟨m,hm⟩:=upper (L++(ends a++ends b))
  have h4:=h2 m
  rw [inE_len (l:=L) fun e he=>hm e (by simp [he]),inE_len (l:=ends a) fun e he=>hm e (by simp [he]),inE_len (l:=ends b) fun e he=>hm e (by simp [he]),ends_len,ends_len] at h4
  have e1:¬ (2 * a.length % 2=1):=by omega
  have e2:¬ (2 * b.length % 2=1):=by omega
  simp [e1,e2,hf] at h4
  omega
 obtain ⟨m,hm⟩:=lower L
 have h5:=pairs_can h1 hm
 have h6:pairs L=c:=(Can.of h5).unique hc fun y=>by
  rw [h,← h3,← inE_ends h5,ends_pairs he]
 rw [← h6,ends_pairs he]
theorem runs_none {s:Slab} (h:s.col=[]):∀ (T:List Slab),outT (runs s T)=outT (runsF T)
 | []=>by rw [runs_end,emit_nil h];rfl
 | u :: T=>by
  by_cases e:u.col=s.col
  ·have h1:(⟨s.x0,u.x1,s.col⟩:Slab).col=[]:=h
   have h2:u.col=[]:=by rw [e,h]
   rw [runs_step e,runs_none h1 T]
   show _=outT (runs u T)
   rw [runs_none h2 T]
  ·rw [runs_stop e,emit_nil h];rfl
end Go.Proofs.YtnhdabelepjgbaaGreat.Rg
