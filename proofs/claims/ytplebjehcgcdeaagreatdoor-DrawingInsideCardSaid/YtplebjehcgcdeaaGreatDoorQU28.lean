/-
 Is a rectangle within a region? By what is left of it, and by its area. Conditions: each lemma says its own.
-/
import Derived.Test.YtplebjehcgcdeaaGreatDoorQU27
namespace Go.Proofs.YtplebjehcgcdeaaGreatDoor.Bm
open Go Go.RowKit
open Rg (Rect Slab stripsL edgesX colC stripL sortU)
theorem end0 {h:Heap} {a:AObj}:(h++[a])[h.length]?=some a:=by simp
theorem end1 {h:Heap} {a b:AObj}:(h++[a,b])[h.length]?=some a:=by simp
theorem end2 {h:Heap} {a b:AObj}:(h++[a,b])[h.length+1]?=some b:=by
 rw [List.getElem?_append_right (by omega),Nat.add_sub_cancel_left];rfl
theorem set0 {h:Heap} {a b:AObj}:(h++[a]).set h.length b=h++[b]:=by
 rw [List.set_append_right _ _ (Nat.le_refl _),Nat.sub_self];rfl
theorem set1 {h:Heap} {a c b:AObj}:(h++[a,c]).set h.length b=h++[b,c]:=by
 rw [List.set_append_right _ _ (Nat.le_refl _),Nat.sub_self];rfl
theorem set2 {h:Heap} {a c b:AObj}:(h++[a,c]).set (h.length+1) b=h++[a,b]:=by
 rw [List.set_append_right _ _ (by omega),Nat.add_sub_cancel_left];rfl
theorem take1 {h:Heap} {a b:AObj}:(h++[a,b]).take (h.length+1)=h++[a]:=by
 rw [List.take_append,List.take_of_length_le (by omega),Nat.add_sub_cancel_left];rfl
theorem app_app {h:Heap} {a b:AObj}:(h++[a])++[b]=h++[a,b]:=by rw [List.append_assoc];rfl
theorem s61:szOf E.P 200=some 3:=by kernel_rfl
theorem a61:aggT E.P 200=some true:=by kernel_rfl
theorem s3r:szOf E.P 3=some 1:=by kernel_rfl
theorem b3_all {a b:Int} {c:List (Int × Int)}:buildT (Bl.fs ⟨[.int .i64 0,.int .i64 0,.slice none 0 0]⟩ ⟨[(0,1),(1,1),(2,1)]⟩) #[(0,.int .i64 a),(1,.int .i64 b),(2,colV c)]=some (.agg ⟨[.int .i64 a,.int .i64 b,colV c]⟩):=rfl
theorem lit_slab (h:Heap) (a b:Int) (c:List (Int × Int)):buildSliceT (some ⟨200,3,40,.agg ⟨[.int .i64 0,.int .i64 0,.slice none 0 0]⟩,⟨some true,some 3⟩⟩) false h 1 #[(0,.agg ⟨[.int .i64 a,.int .i64 b,colV c]⟩)]=some (lst true [.agg ⟨[.int .i64 a,.int .i64 b,colV c]⟩],h) :=
 (build_lit' (n:=1) (l:=[(0,.agg ⟨[.int .i64 a,.int .i64 b,colV c]⟩)]) rfl rfl (by decide) (by decide) (by decide)).trans rfl
theorem app_slab {h:Heap} {b lo:Nat} {c:List Slab} (s:Slab) (hob:h[b]?=some (slabR.row 200 c)) (hlo:lo≤b) (hc:c.length≤1000000) :
  appendT (some ⟨200,3,40,.agg ⟨[.int .i64 0,.int .i64 0,.slice none 0 0]⟩,⟨some true,some 3⟩⟩) h lo false (slabR.sl b c) (lst true [.agg ⟨[.int .i64 s.x0,.int .i64 s.x1,colV s.col]⟩])=some (slabR.sl b (c++[s]),h.set b (slabR.row 200 (c++[s]))) :=
 Rec.app (R:=slabR) (m:=[s]) rfl hob (Rec.cells_tree (R:=slabR) rfl [s]) hlo (by show (c.length+1) * 40≤2 ^ 47;omega)
theorem app_two' {h:Heap} {b lo:Nat} {c:List Int} (u v:Int) (hob:h[b]?=some (intR.row 3 c)) (hlo:lo≤b) (hc:c.length≤1000000) :
  appendT (some ⟨3,1,8,.int .i64 0,⟨some false,some 1⟩⟩) h lo false (intR.sl b c) (lst true [.int .i64 u,.int .i64 v])=some (intR.sl b (c++[u,v]),h.set b (intR.row 3 (c++[u,v]))) :=
 Rec.app (R:=intR) (m:=[u,v]) rfl hob (cells_lst (by rfl)) hlo (by show (c.length+2) * 8≤2 ^ 47;omega)
def xsL (l:List Rect):List Int:=l.flatMap fun r=>[r.x0,r.x1]
theorem xsL_cons (r:Rect) (l:List Rect):xsL (r :: l)=[r.x0,r.x1]++xsL l:=rfl
theorem xsL_len (l:List Rect):(xsL l).length=2 * l.length:=by
 induction l with
 | nil=>rfl
 | cons r l ih =>
  have e2:(r :: l).length=l.length+1:=rfl
  have e3:[r.x0,r.x1].length=2:=rfl
  rw [xsL_cons,List.length_append,ih,e2,e3];omega
theorem slab_sl_len {b:Nat} {c d:List Slab} (h:c.length=d.length):slabR.sl b c=slabR.sl b d:=by unfold Rec.sl;rw [h]
theorem strips_spec (x:Bool) (P:List (Option Bool × List Rect)) (hok:∀ p∈P,Rec.Ok p.1 p.2) (hP:P.length≤1000) (ht:tot P≤1000) (st:settled depth (lst x (P.map fun p=>rectR.o p.1 p.2))=true)
  (h:Heap) (lo:Nat) (hlo:lo≤h.length) (hb:∀ n,h.length≤n→h.all (belowO n)=true) :
  ∃ q,L E 162 [lst x (P.map fun p=>rectR.o p.1 p.2)] h lo=some (slabR.sl (h.length+1) (stripsL (allP P)),h++[intR.row 3 q,slabR.row 200 (stripsL (allP P))]):=by
 have hcat:=rects_concat x P hok hP (by omega)
 have hcl:(allP P).length≤1000:=by rw [tot_all];exact ht
 have hk:Rec.Ok (if tot P=0 then none else some false) (allP P):=by
  intro hk
  split at hk
  ·rename_i h0
   exact List.eq_nil_of_length_eq_zero (by rw [tot_all,h0])
  ·cases hk
 generalize (if tot P=0 then none else some false)=k at hcat hk
 generalize allP P=ll at hcat hk hcl ⊢
 obtain ⟨r,co,hr⟩:=compInts (h:=h++[intR.row 3 (sortI (xsL ll))]) (b:=h.length) (lo:=lo) (d:=sortI (xsL ll)) end0 hlo (by rw [sortI_len,xsL_len];omega)
 refine ⟨compI (sortI (xsL ll))++r,?_⟩
 rw [L_fn F162 rfl]
 simp -implicitDefEqProofs [r162,p162,prep_new,newK_nil s3r,ret1 m205,hcat,st,Rec.o_len hk]
 rw [LL_for (γ:=List Int) ll [] (fun i c=>[(4,intR.sl h.length c),(13,.int .i64 i)]) (fun _ c=>h++[intR.row 3 c])
  (fun _ rest c=>(.exit 0,[(4,intR.sl h.length (c++xsL rest)),(13,undef)],h++[intR.row 3 (c++xsL rest)])) (fun i c=>c.length=2 * i) (by omega) rfl]
 ·rw [List.nil_append]
  have hel:=xsL_len ll
  have so:=sortInts (h:=h++[intR.row 3 (xsL ll)]) (b:=h.length) (lo:=lo) (d:=xsL ll) end0 hlo (by omega)
  have hsl:(sortI (xsL ll)).length=(xsL ll).length:=sortI_len _
  rw [Rg.comp_sort] at co hr ⊢
  have e1:intR.sl h.length (sortI (xsL ll))=intR.sl h.length (xsL ll):=by unfold Rec.sl;rw [hsl]
  rw [e1,set0] at co
  rw [set0] at so
  simp -implicitDefEqProofs [k162_4,ret2 (E:=E) (f:=172) rfl,ret2 (E:=E) (f:=173) rfl,so,co,prep_new,newK_nil s61]
  rw [hsl] at hr ⊢
  have exs:stripsL ll=stripL (colC ll) (sortU (xsL ll)):=rfl
  rw [exs]
  generalize hys:sortU (xsL ll)=ys at hr ⊢
  generalize (xsL ll).length=n at hr hel ⊢
  have hyn:ys.length≤40000:=by rw [List.length_append] at hr;omega
  clear hcat co so
  rw [LL_rec (α:=Nat × List Slab) (1,[]) (fun c=>[(7,slabR.sl (h.length+1) c.2),(8,.int .i64 c.1)]) (fun c=>h++[intR.row 3 (ys++r),slabR.row 200 c.2])
   (fun c=>(.exit 2,[(7,slabR.sl (h.length+1) (c.2++stripL (colC ll) (ys.drop (c.1-1)))),(8,undef)],h++[intR.row 3 (ys++r),slabR.row 200 (c.2++stripL (colC ll) (ys.drop (c.1-1)))])) (fun c=>1≤c.1∧c.1≤ys.length+1∧c.2.length≤c.1) (fun c=>ys.length+1-c.1)]
  ·simp -implicitDefEqProofs [k162_12]
  ·exact ⟨Nat.le_refl _,by simp,by simp⟩
  ·simp -implicitDefEqProofs [k162_12,Rec.sl_nil]
  ·rfl
  ·intro nx c hc ih
   obtain ⟨i,o⟩:=c
   obtain ⟨h1,h2,h3⟩:=hc
   simp only at h1 h2 h3
   by_cases hi:i<ys.length
   ·obtain ⟨m,rfl⟩:∃ m,i=m+1:=⟨i-1,by omega⟩
    have hm0:m<ys.length:=by omega
    have hd:ys.drop (m+1-1)=ys[m] :: ys[m+1] :: ys.drop (m+2):=by
     rw [Nat.add_sub_cancel,List.drop_eq_getElem_cons hm0,List.drop_eq_getElem_cons hi]
    have hd2:ys.drop (m+1)=ys[m+1] :: ys.drop (m+2):=List.drop_eq_getElem_cons hi
    have ek:stripL (colC ll) (ys[m] :: ys[m+1] :: ys.drop (m+2))=[⟨ys[m],ys[m+1],colC ll ys[m]⟩]++stripL (colC ll) (ys[m+1] :: ys.drop (m+2)):=rfl
    have w1:IntKind.i64.wrap (m:Int)=m:=wrap64 (by omega) (by omega)
    have w2:IntKind.i64.wrap ((m:Int)+1+1)=(m:Int)+2:=(wrap64 (by omega) (by omega)).trans (by omega)
    have hlt:(m:Int)+1<(ys.length:Int):=by omega
    have px:=pre_index (t:=3) (g:=some false) (b:=h.length) (n:=n) (k:=.i64) hm0
    have px1:=pre_index (t:=3) (g:=some false) (b:=h.length) (n:=n) (k:=.i64) hi
    have pl:=pre_load (h:=h++[intR.row 3 (ys++r),slabR.row 200 o]) (b:=h.length) (n:=n) (sz:=some 1) end1 hr hm0
    have pl1:=pre_load (h:=h++[intR.row 3 (ys++r),slabR.row 200 o]) (b:=h.length) (n:=n) (sz:=some 1) end1 hr hi
    have so1:settled depth (rectR.o k ll)=true:=Rec.o_set
    have so2:∀ z,settled depth (.int .i64 z)=true:=fun _=>rfl
    have cs:=column_spec k ll ys[m] hk hcl
    have ap:=app_slab (h:=h++[intR.row 3 (ys++r),slabR.row 200 o]) (b:=h.length+1) (lo:=lo) (c:=o) ⟨ys[m],ys[m+1],colC ll ys[m]⟩ end2 (by omega) (by omega)
    rw [set2] at ap
    have ih:=ih (m+2,o++[⟨ys[m],ys[m+1],colC ll ys[m]⟩]) (by show ys.length+1-(m+2)<ys.length+1-(m+1);omega) ⟨by show 1≤m+2;omega,by show m+2≤ys.length+1;omega,by show (o++[_]).length≤m+2;simp;omega⟩
    rw [hd,ek,← hd2,← List.append_assoc]
    push_cast at px1
    simp -implicitDefEqProofs [k162_12,-List.append_assoc] at ih
    simp -implicitDefEqProofs [r162_12,k162_12,hlt,pre_len,w1,w2,px,pl,px1,pl1,ret1 m206,so1,so2,cs,b3_all,lit_slab,ap,trim_le,-List.append_assoc]
    exact ih
   ·have e:stripL (colC ll) (ys.drop (i-1))=[]:=by
     have hl:(ys.drop (i-1)).length≤1:=by rw [List.length_drop];omega
     match hd:ys.drop (i-1),hl with
     | [],_=>rfl
     | [z],_=>rfl
    rw [e,List.append_nil]
    simp -implicitDefEqProofs [r162_12,k162_12,hi,pre_len,trim_le]
 ·simp -implicitDefEqProofs [k162_4,Rec.sl_nil]
 ·rfl
 ·intro nx i c hi _
  simp -implicitDefEqProofs [r162_4,k162_4,hi,trim_le,xsL]
 ·intro nx i s rest c hi hv hd hw hc ih
  have ixi:=Rec.o_index (R:=rectR) (t:=56) (kk:=.i64) (s:=4) rfl hk hi
  rw [hv] at ixi
  have ap:=fun o=>app_two' (h:=h++[intR.row 3 c,o]) (b:=h.length) (lo:=lo) (c:=c) s.x0 s.x1 end1 hlo (by omega)
  simp only [set1] at ap
  have ih:=ih (c++[s.x0,s.x1]) (by simp;omega)
  have hlo1:lo≤h.length+1:=by omega
  have hb1:=hb (h.length+1) (by omega)
  rw [xsL_cons,← List.append_assoc]
  simp -implicitDefEqProofs [k162_4,-List.append_assoc] at ih
  simp -implicitDefEqProofs [r162_4,k162_4,hi,ixi,rect_val,lit_two,ap,hw,trim_cut,Rec.sl_bel,Rec.row_bel,Rec.o_bel,hlo1,hb1,app_app,take1,-List.append_assoc,-List.all_eq_true]
  exact ih
end Go.Proofs.YtplebjehcgcdeaaGreatDoor.Bm
namespace Go.Proofs.YtplebjehcgcdeaaGreatDoor.Bm
open Go Go.RowKit
open Rg (Rect Slab runs runsF outT emit)
def cntR (c:List (Int × Int)):List Slab→Nat
 | []=>0
 | u :: U=>if u.col=c then cntR c U+1 else 0
theorem cntR_le (c:List (Int × Int)):∀ (U:List Slab),cntR c U≤U.length
 | []=>Nat.le_refl _
 | u :: U=>by
  have:=cntR_le c U
  unfold cntR
  split
  ·exact Nat.succ_le_succ this
  ·exact Nat.zero_le _
def lastX (x:Int) (c:List (Int × Int)):List Slab→Int
 | []=>x
 | u :: U=>if u.col=c then lastX u.x1 c U else x
theorem lastX_get (c:List (Int × Int)):∀ (U:List Slab) (s:Slab) (h:cntR c U<(s :: U).length),lastX s.x1 c U=((s :: U)[cntR c U]).x1
 | [],s,_=>rfl
 | u :: U,s,h=>by
  by_cases e:u.col=c
  ·have e1:cntR c (u :: U)=cntR c U+1:=by rw [cntR,if_pos e]
   have e2:lastX s.x1 c (u :: U)=lastX u.x1 c U:=by rw [lastX,if_pos e]
   rw [e2,lastX_get c U u (by have:=cntR_le c U;simp;omega)]
   simp only [e1,List.getElem_cons_succ]
  ·have e1:cntR c (u :: U)=0:=by rw [cntR,if_neg e]
   have e2:lastX s.x1 c (u :: U)=s.x1:=by rw [lastX,if_neg e]
   rw [e2]
   simp only [e1,List.getElem_cons_zero]
theorem runs_run:∀ (U:List Slab) (s:Slab),outT (runs s U)=emit ⟨s.x0,lastX s.x1 s.col U,s.col⟩++outT (runsF (U.drop (cntR s.col U)))
 | [],s=>by
  rw [Rg.runs_end]
  show emit s=emit s++[]
  rw [List.append_nil]
 | u :: U,s=>by
  by_cases e:u.col=s.col
  ·rw [Rg.runs_step e,runs_run U ⟨s.x0,u.x1,s.col⟩]
   rw [cntR,lastX,if_pos e,if_pos e]
   rfl
  ·rw [Rg.runs_stop e,cntR,lastX,if_neg e,if_neg e]
   rfl
theorem runsF_drop {T:List Slab} {i:Nat} (hi:i<T.length):∃ h:i+cntR T[i].col (T.drop (i+1))<T.length,
  outT (runsF (T.drop i))=emit ⟨T[i].x0,(T[i+cntR T[i].col (T.drop (i+1))]).x1,T[i].col⟩++outT (runsF (T.drop (i+1+cntR T[i].col (T.drop (i+1))))):=by
 have hc:=cntR_le T[i].col (T.drop (i+1))
 rw [List.length_drop] at hc
 have h:i+cntR T[i].col (T.drop (i+1))<T.length:=by omega
 refine ⟨h,?_⟩
 rw [List.drop_eq_getElem_cons hi]
 show outT (runs T[i] (T.drop (i+1)))=_
 rw [runs_run,lastX_get _ _ _ (by simp;omega),List.drop_drop]
 have e:(T[i] :: T.drop (i+1))[cntR T[i].col (T.drop (i+1))]'(by simp;omega)=T[i+cntR T[i].col (T.drop (i+1))]:=by
  have hd:=List.drop_eq_getElem_cons hi
  have:∀ (j:Nat) (hj:j<(T[i] :: T.drop (i+1)).length) (hj':i+j<T.length),(T[i] :: T.drop (i+1))[j]=T[i+j]:=by
   intro j hj hj'
   have:(T.drop i)[j]'(by rw [hd];exact hj)=T[i+j]:=List.getElem_drop ..
   rw [← this]
   congr 1
   exact hd.symm
  exact this _ _ _
 rw [e]
theorem drop_cnt {c:List (Int × Int)} {T:List Slab} {k:Nat} (hk:k<T.length):cntR c (T.drop k)=if (T[k]).col=c then cntR c (T.drop (k+1))+1 else 0:=by
 rw [List.drop_eq_getElem_cons hk,cntR]
theorem emit_cons (x0 x1:Int) (s:Int × Int) (c:List (Int × Int)):emit ⟨x0,x1,s :: c⟩=[⟨x0,s.1,x1,s.2⟩]++emit ⟨x0,x1,c⟩:=rfl
theorem s32:szOf E.P 56=some 4:=by kernel_rfl
theorem a32:aggT E.P 56=some true:=by kernel_rfl
theorem lit_rect (h:Heap) (a b c d:Int):buildSliceT (some ⟨56,4,32,.agg ⟨[.int .i64 0,.int .i64 0,.int .i64 0,.int .i64 0]⟩,⟨some true,some 4⟩⟩) false h 1 #[(0,.agg ⟨[.int .i64 a,.int .i64 b,.int .i64 c,.int .i64 d]⟩)]=some (lst true [.agg ⟨[.int .i64 a,.int .i64 b,.int .i64 c,.int .i64 d]⟩],h) :=
 (build_lit' (n:=1) (l:=[(0,.agg ⟨[.int .i64 a,.int .i64 b,.int .i64 c,.int .i64 d]⟩)]) rfl rfl (by decide) (by decide) (by decide)).trans rfl
theorem app_rect {h:Heap} {b lo:Nat} {c:List Rect} (r:Rect) (hob:h[b]?=some (rectR.row 56 c)) (hlo:lo≤b) (hc:c.length≤1000000000) :
  appendT (some ⟨56,4,32,.agg ⟨[.int .i64 0,.int .i64 0,.int .i64 0,.int .i64 0]⟩,⟨some true,some 4⟩⟩) h lo false (rectR.sl b c) (lst true [.agg ⟨[.int .i64 r.x0,.int .i64 r.y0,.int .i64 r.x1,.int .i64 r.y1]⟩])=some (rectR.sl b (c++[r]),h.set b (rectR.row 56 (c++[r]))) :=
 Rec.app (R:=rectR) (m:=[r]) rfl hob (Rec.cells_tree (R:=rectR) rfl [r]) hlo (by show (c.length+1) * 32≤2 ^ 47;omega)
theorem write_spec (T:List Slab) (hT:T.length≤10000) (hc:∀ s∈T,s.col.length≤10000):pureCall E.P (L E) 161 [lst false (slabR.vals T)]=some (lst false (rectR.vals (outT (runsF T)))):=by
 have ix:∀ (i:Nat) (hi:i<T.length),indexAddrT (.sl 200 ⟨some true,some 3⟩) (lst false (slabR.vals T)) (.int .i64 (i:Int))=some (cptr (slabR.val T[i])):=fun i hi=>Rec.index_tree rfl hi
 have eq:=fun (a b:List (Int × Int)) (ha:a.length≤1000000)=>equal_spans false false a b ha
 rw [pureCall_fn F161 rfl]
 simp -implicitDefEqProofs [r161,p161,prep_new,newK_nil s32]
 rw [LL_rec (α:=Nat × List Rect) (0,[]) (fun c=>[(3,rectR.sl 0 c.2),(4,.int .i64 c.1)]) (fun c=>[rectR.row 56 c.2])
   (fun c=>(.exit 0,[(3,rectR.sl 0 (c.2++outT (runsF (T.drop c.1)))),(4,undef)],[rectR.row 56 (c.2++outT (runsF (T.drop c.1)))])) (fun c=>c.1≤T.length∧c.2.length≤c.1 * 10000) (fun c=>T.length-c.1)]
 ·have rr:=Rec.reifyR_row (R:=rectR) (P:=E.P) (h:=[rectR.row 56 (outT (runsF T))]) (b:=0) (t:=56) (l:=outT (runsF T)) rfl s32 a32
  simp -implicitDefEqProofs [k161_3,rr]
 ·exact ⟨Nat.zero_le _,Nat.zero_le _⟩
 ·simp -implicitDefEqProofs [k161_3,Rec.sl_nil]
 ·rfl
 ·intro nx c hI ih
  obtain ⟨i,o⟩:=c
  obtain ⟨h1,h2⟩:=hI
  simp only at h1 h2
  by_cases hi:i<T.length
  ·obtain ⟨hK,hrun⟩:=runsF_drop hi
   have hci:=hc _ (List.getElem_mem hi)
   have hcs:=fun (k:Nat) (hk:k<T.length)=>hc _ (List.getElem_mem hk)
   have w1:IntKind.i64.wrap ((i:Int)+1)=(i:Int)+1:=wrap64 (by omega) (by omega)
   have hii:(i:Int)<(T.length:Int):=by omega
   obtain ⟨m,hm⟩:∃ m,m=i+cntR T[i].col (T.drop (i+1)):=⟨_,rfl⟩
   have hm1:i+1+cntR T[i].col (T.drop (i+1))=m+1:=by omega
   have hK':m<T.length:=by omega
   simp only [hm1,← hm] at hrun
   rw [hrun]
   generalize hcol:T[i].col=ci at *
   generalize hx0:T[i].x0=x0 at *
   generalize hx1:T[m].x1=x1 at *
   have hix:=ix i hi
   rw [slab_val,hcol,hx0] at hix
   have him:=ix m hK'
   rw [slab_val,hx1] at him
   have eR:=fun (o':List Rect) (hl:o'.length≤(m+1) * 10000)=>ih (m+1,o') (by show T.length-(m+1)<T.length-i;omega) ⟨by show m+1≤T.length;omega,hl⟩
   simp -implicitDefEqProofs [r161_3,k161_3,hi,Rec.vals_len,w1]
   rw [LL_rec (α:=Nat) (i+1) (fun k=>[(5,.int .i64 (k:Int))]) (fun _=>[rectR.row 56 o]) (fun _=>(.exit 2,[(5,.int .i64 ((m+1:Nat):Int))],[rectR.row 56 o]))
    (fun k=>i+1≤k∧k≤T.length∧k+cntR ci (T.drop k)=m+1) (fun k=>T.length-k)]
   ·have wm:IntKind.i64.wrap ((m:Int)+1-1)=(m:Int):=(wrap64 (by omega) (by omega)).trans (by omega)
    have wm':IntKind.i64.wrap (m:Int)=(m:Int):=wrap64 (by omega) (by omega)
    have ixc:∀ (j:Nat) (hj:j<ci.length),indexAddrT (.sl 234 ⟨some true,some 2⟩) (lst false (spanR.vals ci)) (.int .i64 (j:Int))=some (cptr (spanR.val ci[j])):=fun j hj=>Rec.index_tree rfl hj
    simp -implicitDefEqProofs [k161_5,hix,colV,Rec.vals_len]
    rw [LL_for (γ:=List Rect) ci o (fun j o'=>[(3,rectR.sl 0 o'),(39,.int .i64 j)]) (fun _ o'=>[rectR.row 56 o'])
     (fun _ rest o'=>(.exit 4,[(3,rectR.sl 0 (o'++emit ⟨x0,x1,rest⟩)),(39,undef)],[rectR.row 56 (o'++emit ⟨x0,x1,rest⟩)])) (fun j o'=>o'.length=o.length+j) (by omega) rfl]
    ·have hel:(emit ⟨x0,x1,ci⟩).length=ci.length:=List.length_map _
     have eR:=eR (o++emit ⟨x0,x1,ci⟩) (by rw [List.length_append,hel];omega)
     simp -implicitDefEqProofs [k161_3] at eR
     simp -implicitDefEqProofs [k161_8,trim_le]
     exact eR
    ·simp -implicitDefEqProofs [k161_8]
    ·rfl
    ·intro nx j o' hj _
     have:emit ⟨x0,x1,[]⟩=[]:=rfl
     simp -implicitDefEqProofs [r161_8,k161_8,hj,trim_le,this]
    ·intro nx j s rest o' hj hv hd hw ho ih
     have ixj:=ixc j hj
     rw [hv,span_val] at ixj
     have ap:=fun q=>app_rect (h:=[rectR.row 56 o',q]) (b:=0) (lo:=0) (c:=o') ⟨x0,s.1,x1,s.2⟩ rfl (Nat.le_refl _) (by omega)
     have ih:=ih (o'++[⟨x0,s.1,x1,s.2⟩]) (by simp;omega)
     rw [emit_cons,← List.append_assoc]
     simp -implicitDefEqProofs [k161_8,-List.append_assoc] at ih
     simp -implicitDefEqProofs [r161_8,k161_8,hj,ixj,hix,him,wm',b4_all,lit_rect,ap,hw,trim_cut,Rec.sl_bel,Rec.row_bel,-List.append_assoc]
     exact ih
   ·exact ⟨Nat.le_refl _,by omega,hm1⟩
   ·simp -implicitDefEqProofs [k161_5]
   ·rfl
   ·intro nx k hI ih
    obtain ⟨h3,h4,h5⟩:=hI
    by_cases hk:k<T.length
    ·have w2:IntKind.i64.wrap ((k:Int)+1)=(k:Int)+1:=wrap64 (by omega) (by omega)
     have hckk:=hcs k hk
     have hixk:=ix k hk
     rw [slab_val] at hixk
     have eqk:=eq T[k].col ci (by omega)
     rw [drop_cnt hk] at h5
     by_cases he:T[k].col=ci
     ·rw [if_pos he] at h5
      rw [he] at eqk
      have ih:=ih (k+1) (by omega) ⟨by omega,by omega,by omega⟩
      simp -implicitDefEqProofs [k161_5] at ih
      simp -implicitDefEqProofs [r161_5,k161_5,hk,Rec.vals_len,w2,hix,hixk,colV,ret0 m204,eqk,he,trim_le]
      exact ih
     ·rw [if_neg he] at h5
      have hR:((m+1:Nat):Int)=(k:Int):=by omega
      rw [hR]
      simp -implicitDefEqProofs [r161_5,k161_5,hk,Rec.vals_len,hix,hixk,colV,ret0 m204,eqk,he,trim_le]
    ·have hR:((m+1:Nat):Int)=(k:Int):=by
      have:=cntR_le ci (T.drop k)
      rw [List.length_drop] at this
      omega
     rw [hR]
     simp -implicitDefEqProofs [r161_5,k161_5,hk,Rec.vals_len,trim_le]
  ·have e:T.drop i=[]:=List.drop_of_length_le (by omega)
   have e1:outT (runsF (T.drop i))=[]:=by rw [e];rfl
   rw [e1,List.append_nil]
   simp -implicitDefEqProofs [r161_3,k161_3,hi,Rec.vals_len,trim_le]
end Go.Proofs.YtplebjehcgcdeaaGreatDoor.Bm
namespace Go.Proofs.YtplebjehcgcdeaaGreatDoor.Bm
open Go Go.RowKit
open Rg (Rect Slab runs runsF outT emit ofL stripsL edgesX colC)
theorem ret3 {E:Env} {C:Callee} {lo:Nat} {h:Heap} {f:FuncId} (hm:E.mode f=3) {args:List Value}:retCall E C lo false f args h=(C f args h lo).map fun r=>(r.1,trim h.length [r.1] r.2):=by
 unfold retCall;rw [hm];rfl
theorem trim_no {n:Nat} {v:Value} {h:Heap} (hv:below depth n v=false):trim n [v] h=h:=by
 unfold trim
 split
 ·rfl
 ·rw [if_neg];simp [hv]
theorem frzAll_row {h h':Heap} {lo:Nat} {v u:Value} (hf:freezeV E.P depth lo h v=some (u,h')):frzAll E.P lo [v] h=some ([u],h'):=by
 unfold frzAll
 simp [List.foldlM,hf]
theorem strips_len (l:List Rect):(stripsL l).length≤2 * l.length:=by
 have h1:=Rg.edgesX_len l
 have h2:=Rg.stripL_len (colC l) (edgesX l)
 unfold stripsL
 omega
theorem stripL_mem (c:Int→List (Int × Int)):∀ (xs:List Int) s,s∈Rg.stripL c xs→s.col=c s.x0
 | [],s,h=>by cases h
 | [_],s,h=>by cases h
 | a :: b :: xs,s,h=>by
  rcases List.mem_cons.1 h with rfl | h
  ·rfl
  ·exact stripL_mem c (b :: xs) s h
theorem strips_col (l:List Rect):∀ s∈stripsL l,s.col.length≤l.length:=fun s hs=>by
 rw [stripL_mem _ _ s hs]
 exact Rg.colC_len l _
theorem lit_list1 (h:Heap) (k:Option Bool) (l:List Rect):buildSliceT (some ⟨31,1,24,.slice none 0 0,⟨some false,some 1⟩⟩) false h 1 #[(0,rectR.o k l)]=some (lst true [rectR.o k l],h):=by
 cases k <;> exact (build_lit' (n:=1) (l:=[(0,_)]) rfl rfl (by decide) (by decide) (by decide)).trans rfl
theorem lit_list2 (h:Heap) (k m:Option Bool) (l r:List Rect):buildSliceT (some ⟨31,1,24,.slice none 0 0,⟨some false,some 1⟩⟩) false h 2 #[(0,rectR.o k l),(1,rectR.o m r)]=some (lst true [rectR.o k l,rectR.o m r],h):=by
 cases k <;> cases m <;> exact (build_lit' (n:=2) (l:=[(0,_),(1,_)]) rfl rfl (by decide) (by decide) (by decide)).trans rfl
theorem strips_one (k:Option Bool) (l:List Rect) (hk:Rec.Ok k l) (hl:l.length≤1000) (h:Heap) (lo:Nat) (hlo:lo≤h.length) (hb:∀ n,h.length≤n→h.all (belowO n)=true) :
  ∃ q,retCall E (L E) lo false 162 [lst true [rectR.o k l]] h=some (slabR.sl (h.length+1) (stripsL l),h++[intR.row 3 q,slabR.row 200 (stripsL l)]):=by
 obtain ⟨q,hq⟩:=strips_spec true [(k,l)] (fun p hp=>by simp at hp;subst hp;exact hk) (by show 1≤1000;omega) (by show l.length+0≤1000;omega) (by cases k <;> rfl) h lo hlo hb
 refine ⟨q,?_⟩
 have e:allP [(k,l)]=l:=List.append_nil l
 rw [e] at hq
 rw [ret3 m162]
 show ((L E 162 [lst true [rectR.o k l]] h lo).map _)=_
 rw [show [rectR.o k l]=[(k,l)].map (fun p=>rectR.o p.1 p.2) from rfl,hq]
 show some (_,trim _ _ _)=_
 rw [trim_no]
 have hn:¬ (h.length+1<h.length):=by omega
 exact decide_eq_false hn
theorem strips_two (k m:Option Bool) (l r:List Rect) (hk:Rec.Ok k l) (hm:Rec.Ok m r) (hl:l.length+r.length≤1000) (h:Heap) (lo:Nat) (hlo:lo≤h.length) (hb:∀ n,h.length≤n→h.all (belowO n)=true) :
  ∃ q,retCall E (L E) lo false 162 [lst true [rectR.o k l,rectR.o m r]] h=some (slabR.sl (h.length+1) (stripsL (l++r)),h++[intR.row 3 q,slabR.row 200 (stripsL (l++r))]):=by
 obtain ⟨q,hq⟩:=strips_spec true [(k,l),(m,r)] (fun p hp=>by simp at hp;rcases hp with rfl | rfl <;> assumption) (by show 2≤1000;omega) (by show l.length+(r.length+0)≤1000;omega) (by cases k <;> cases m <;> rfl) h lo hlo hb
 refine ⟨q,?_⟩
 have e:allP [(k,l),(m,r)]=l++r:=by show l++(r++[])=_;rw [List.append_nil]
 rw [e] at hq
 rw [ret3 m162]
 show ((L E 162 [lst true [rectR.o k l,rectR.o m r]] h lo).map _)=_
 rw [show [rectR.o k l,rectR.o m r]=[(k,l),(m,r)].map (fun p=>rectR.o p.1 p.2) from rfl,hq]
 show some (_,trim _ _ _)=_
 rw [trim_no]
 have hn:¬ (h.length+1<h.length):=by omega
 exact decide_eq_false hn
theorem write_row {h:Heap} {b lo:Nat} (T:List Slab) (hob:h[b]?=some (slabR.row 200 T)) (hlo:lo≤b) (hT:T.length≤10000) (hc:∀ s∈T,s.col.length≤10000) :
  ∃ h',retCall E (L E) lo false 161 [slabR.sl b T] h=some (lst false (rectR.vals (outT (runsF T))),h'):=by
 have hf:=Rec.freeze_row (R:=slabR) hob s61 a61 hlo
 refine ⟨if T.length=0 then h else h.set b .dead,?_⟩
 rw [ret4 m161,frzAll_row hf]
 show ((pureCall E.P (L E) 161 [lst false (slabR.vals T)]).map _)=_
 rw [write_spec T hT hc]
 rfl
def ofR (l:List Rect):Except Int (List Rect):=if l.all okR then if 400<l.length then .error 6 else if (ofL l).length≤200 then .ok (ofL l) else .error 6 else .error 1
def resL:Except Int (List Rect)→Value
 | .error e=>.tuple ⟨[.slice none 0 0,.int .i64 e]⟩
 | .ok l=>.tuple ⟨[lst false (rectR.vals l),.int .i64 0]⟩
theorem of_spec (k:Option Bool) (l:List Rect) (hk:Rec.Ok k l) (hl:l.length≤1000000):pureCall E.P (L E) 103 [rectR.o k l]=some (resL (ofR l)):=by
 rw [pureCall_fn F103 rfl]
 simp -implicitDefEqProofs [r103,padS,Rec.o_len hk]
 rw [LL_for (γ:=Unit) l () (fun i _=>[(8,.int .i64 i)]) (fun _ _=>[]) (fun _ rest _=>if rest.all okR then (.exit 0,[(8,undef)],[]) else (.ret,[(2,.slice none 0 0),(3,.int .i64 1),(8,undef)],[])) (fun _ _=>True) (by omega) trivial]
 ·unfold ofR
  cases ha:l.all okR
  ·simp -implicitDefEqProofs [k103_2,resL]
  ·by_cases h4:400<l.length
   ·have h4i:400<(l.length:Int):=by omega
    simp -implicitDefEqProofs [k103_2,resL,h4,h4i,Rec.o_len hk]
   ·have h4':¬ (400<(l.length:Int)):=by omega
    obtain ⟨q,hs⟩:=strips_one k l hk (by omega) [] 0 (Nat.le_refl _) fun _ _=>rfl
    obtain ⟨h',hw⟩:=write_row (h:=[intR.row 3 q,slabR.row 200 (stripsL l)]) (b:=1) (lo:=0) (stripsL l) rfl (Nat.zero_le _) (by have:=strips_len l;omega) (fun s hs=>by have:=strips_col l s hs;omega)
    have e:outT (runsF (stripsL l))=ofL l:=rfl
    rw [e] at hw
    have hlim:=limited_spec false (ofL l)
    by_cases h2:(ofL l).length≤200 <;> simp -implicitDefEqProofs [k103_2,resL,h4,h4',Rec.o_len hk,lit_list1,hs,hw,ret1s m160,hlim,h2]
 ·simp -implicitDefEqProofs [k103_2]
 ·rfl
 ·intro nx i c hi _
  simp -implicitDefEqProofs [r103_2,k103_2,hi,trim_le]
 ·intro nx i r rest c hi hv hd hw _ ih
  have ih:=ih () trivial
  have ixi:=Rec.o_index (R:=rectR) (t:=56) (kk:=.i64) (s:=4) rfl hk hi
  rw [hv] at ixi
  have hr:=right_s r
  cases h:okR r
  ·simp -implicitDefEqProofs [r103_2,k103_2,hi,ixi,rect_val,ret0 m78,hr,h,trim_cut,Rec.o_bel]
  ·simp -implicitDefEqProofs [k103_2] at ih
   simp -implicitDefEqProofs [r103_2,k103_2,hi,ixi,rect_val,ret0 m78,hr,h,hw,trim_cut,Rec.o_bel]
   exact ih
end Go.Proofs.YtplebjehcgcdeaaGreatDoor.Bm
namespace Go.Proofs.YtplebjehcgcdeaaGreatDoor.Bm
open Go Go.RowKit
open Rg (Rect Slab runs runsF outT emit ofL stripsL edgesX colC opL opC mergeC keepS addS sortU ends stripL)
def regB (l:List Rect):Bool:=match ofR l with
 | .ok m=>decide (m=l)
 | .error _=>false
theorem right2_spec (k:Option Bool) (l:List Rect) (hk:Rec.Ok k l) (hl:l.length≤1000000):pureCall E.P (L E) 37 [rectR.o k l]=some (.bool (regB l)):=by
 have ho:=of_spec k l hk hl
 have hf:freezeV E.P depth 0 [] (rectR.o k l)=some (rectR.o k l,[]):=frz_set8 Rec.o_set Rec.o_one
 have hr:retCall E (L E) 0 false 103 [rectR.o k l] []=some (resL (ofR l),[]):=by
  rw [ret4 m103,frzAll_row hf]
  show ((pureCall E.P (L E) 103 [rectR.o k l]).map _)=_
  rw [ho];rfl
 rw [pureCall_fn F37 rfl]
 unfold regB
 have hle:∀ m,ofR l=.ok m→m.length≤200:=fun m h=>by
  unfold ofR at h
  split at h
  ·split at h
   ·cases h
   ·split at h
    ·cases h;assumption
    ·cases h
  ·cases h
 have hne:∀ e,ofR l=.error e→e=1∨e=6:=fun m h=>by
  unfold ofR at h
  split at h
  ·split at h
   ·cases h;exact .inr rfl
   ·split at h
    ·cases h
    ·cases h;exact .inr rfl
  ·cases h;exact .inl rfl
 cases h:ofR l with
 | error e =>
  rw [h] at hr
  have e0:¬ (e=0):=by have:=hne e h;omega
  simp -implicitDefEqProofs [r37,p37,hr,resL,e0]
 | ok m =>
  rw [h] at hr
  have he:=equal_rects (some false) k m l Rec.ok_some hk (by have:=hle m h;omega)
  rw [show rectR.o (some false) m=lst false (rectR.vals m) from rfl] at he
  simp -implicitDefEqProofs [r37,p37,hr,resL,ret0 m104,Rec.o_reify,he]
theorem ofL_ok' {l:List Rect} (h:l.all okR=true):∀ r∈l,r.y0<r.y1:=fun r hr=>by
 have:=okR_iff.1 (List.all_eq_true.1 h r hr)
 unfold Rect.inBox at this
 omega
theorem regB_iff {l:List Rect}:regB l=true↔l.all okR=true∧l.length≤200∧Rg.Form l:=by
 unfold regB ofR
 by_cases ha:l.all okR=true
 ·have hy:=ofL_ok' ha
  rw [if_pos ha]
  by_cases h4:400<l.length
  ·rw [if_pos h4];simp;omega
  ·rw [if_neg h4]
   by_cases h2:(ofL l).length≤200
   ·rw [if_pos h2]
    simp only [decide_eq_true_eq]
    constructor
    ·intro e
     exact ⟨ha,e ▸ h2,e ▸ (Rg.ofL_ok hy).1⟩
    ·intro ⟨_,_,hf⟩
     exact (Rg.ofL_ok hy).1.ext hf (Rg.ofL_ok hy).2
   ·rw [if_neg h2]
    simp only [Bool.false_eq_true,false_iff]
    rintro ⟨_,hl,hf⟩
    rw [(Rg.ofL_ok hy).1.ext hf (Rg.ofL_ok hy).2] at h2
    omega
 ·rw [if_neg ha];simp [ha]
def limR (l:List Rect):Except Int (List Rect):=if l.length≤200 then .ok l else .error 6
def opR (f:Bool→Bool→Bool) (a b:List Rect):Except Int (List Rect):=if regB a && regB b then limR (opL f a b) else .error 1
theorem freeze_slab {h:Heap} {b lo:Nat} (T:List Slab) (hob:h[b]?=some (slabR.row 200 T)) (hlo:lo≤b) :
  ∃ g,freezeV E.P depth lo h (slabR.sl b T)=some (lst false (slabR.vals T),g)∧g.length=h.length∧(∀ j,j≠b→g[j]?=h[j]?)∧∀ n,h.all (belowO n)=true→g.all (belowO n)=true:=by
 refine ⟨_,Rec.freeze_row (R:=slabR) hob s61 a61 hlo,?_,fun j hj=>?_,fun n hn=>?_⟩
 ·split
  ·rfl
  ·exact List.length_set ..
 ·split
  ·rfl
  ·exact List.getElem?_set_ne (Ne.symm hj)
 ·split
  ·exact hn
  ·rw [List.all_eq_true] at hn ⊢
   intro o ho
   rcases List.mem_or_eq_of_mem_set ho with h1 | h1
   ·exact hn o h1
   ·subst h1;rfl
theorem atO_len {T:List Slab} {n:Nat} (h:∀ s∈T,s.col.length≤n) (x:Int):(colL (atO T x)).length≤n:=by
 unfold atO
 split
 ·rename_i hlt
  split
  ·rw [List.getD_eq_getElem?_getD,List.getElem?_eq_getElem hlt]
   exact h _ (List.getElem_mem hlt)
  ·exact Nat.zero_le _
 ·exact Nat.zero_le _
theorem addS_len (o:List (Int × Int)) (a b:Int):(addS o a b).length≤o.length+1:=by
 unfold addS
 split
 ·split
  ·simp
  ·simp
 ·simp
theorem keepS_len (k:Int→Bool):∀ (ys:List Int) (o:List (Int × Int)),(keepS k o ys).length≤o.length+ys.length
 | [],o=>by simp [keepS]
 | [a],o=>by simp [keepS]
 | a :: b :: ys,o=>by
  unfold keepS
  have h1:=keepS_len k (b :: ys) (if k a then addS o a b else o)
  have h2:(if k a then addS o a b else o).length≤o.length+1:=by
   split
   ·exact addS_len o a b
   ·omega
  have h3:(a :: b :: ys).length=(b :: ys).length+1:=rfl
  omega
theorem sortU_len (l:List Int):(sortU l).length≤l.length:=by
 rw [← Rg.comp_sort]
 have h:=compF_len (sortI l)
 have h2:=sortI_len l
 unfold compF at h
 rw [List.length_append] at h
 omega
theorem mergeC_len (f:Bool→Bool→Bool) (a b:List (Int × Int)):(mergeC f a b).length≤2 * (a.length+b.length):=by
 unfold mergeC
 have h1:=keepS_len (fun y=>f (inB a y) (inB b y)) (sortU (ends (a++b))) []
 have h2:=sortU_len (ends (a++b))
 rw [Rg.ends_len,List.length_append] at h2
 have h3:([]:List (Int × Int)).length=0:=rfl
 omega
theorem opR_map (f:Bool→Bool→Bool) (a b:List Rect):(stripsL (a++b)).map (fun s=>(⟨s.x0,s.x1,opC f a b s.x0⟩:Slab))=stripL (opC f a b) (edgesX (a++b)) :=
 Rg.stripL_map _ _ (fun s=>opC f a b s.x0) _ fun _ _=>rfl
theorem app3 {h:Heap} {a b c:AObj}:(h++[a,b])++[c]=h++[a,b,c]:=by rw [List.append_assoc];rfl
theorem get31 {h:Heap} {a b c:AObj}:(h++[a,b,c])[h.length+1]?=some b:=by
 rw [List.getElem?_append_right (by omega),Nat.add_sub_cancel_left];rfl
theorem set31 {h:Heap} {a b c d:AObj}:(h++[a,b,c]).set (h.length+1) d=h++[a,d,c]:=by
 rw [List.set_append_right _ _ (by omega),Nat.add_sub_cancel_left];rfl
theorem take3 {h:Heap} {a b c:AObj}:(h++[a,b,c]).take (h.length+2)=h++[a,b]:=by
 rw [List.take_append,List.take_of_length_le (by omega),Nat.add_sub_cancel_left];rfl
theorem combine_spec (k m:Option Bool) (a b:List Rect) (q:FuncId) (f:Bool→Bool→Bool) (hk:Rec.Ok k a) (hm:Rec.Ok m b) (hq0:E.mode q=0) (hq:∀ x y,pureCall E.P (L E) q [.bool x,.bool y]=some (.bool (f x y))) (ha:a.length≤1000000) (hb:b.length≤1000000) :
  pureCall E.P (L E) 105 [rectR.o k a,rectR.o m b,.func (.func q) ⟨[]⟩ ⟨[]⟩]=some (resL (opR f a b)):=by
 have ra:=right2_spec k a hk ha
 have rb:=right2_spec m b hm hb
 rw [pureCall_fn F105 rfl]
 unfold opR
 cases h1:regB a
 ·simp -implicitDefEqProofs [r105,p105,ret0 m37,Rec.o_reify,ra,h1,resL]
 cases h2:regB b
 ·simp -implicitDefEqProofs [r105,p105,ret0 m37,Rec.o_reify,ra,rb,h1,h2,resL]
 have la:=(regB_iff.1 h1).2.1
 have lb:=(regB_iff.1 h2).2.1
 obtain ⟨q1,e1⟩:=strips_one k a hk (by omega) [] 0 (Nat.le_refl _) fun _ _=>rfl
 have bel1:∀ (q:List Int) (T:List Slab) n,[intR.row 3 q,slabR.row 200 T].all (belowO n)=true:=fun q T n=>by
  simp only [List.all_cons,List.all_nil,Rec.row_bel,Bool.and_self]
 obtain ⟨q2,e2⟩:=strips_one m b hm (by omega) [intR.row 3 q1,slabR.row 200 (stripsL a)] 0 (Nat.zero_le _) fun n _=>bel1 _ _ n
 obtain ⟨g1,f1,l1,n1,u1⟩:=freeze_slab (h:=[intR.row 3 q1,slabR.row 200 (stripsL a),intR.row 3 q2,slabR.row 200 (stripsL b)]) (b:=1) (lo:=0) (stripsL a) rfl (Nat.zero_le _)
 obtain ⟨g2,f2,l2,n2,u2⟩:=freeze_slab (h:=g1) (b:=3) (lo:=0) (stripsL b) (by rw [n1 3 (by decide)];rfl) (Nat.zero_le _)
 have bel2:∀ n,g2.all (belowO n)=true:=fun n=>u2 n (u1 n (by simp only [List.all_cons,List.all_nil,Rec.row_bel,Bool.and_self]))
 obtain ⟨q3,e3⟩:=strips_two k m a b hk hm (by omega) g2 0 (Nat.zero_le _) fun n _=>bel2 n
 clear n1 u1 n2 u2
 have hg:g2.length=4:=by rw [l2,l1];rfl
 have mp:=opR_map f a b
 have hT:=strips_len (a++b)
 rw [List.length_append] at hT
 have hTa:=strips_len a
 have hTb:=strips_len b
 have hca:=fun x=>atO_len (strips_col a) x
 have hcb:=fun x=>atO_len (strips_col b) x
 simp only [List.nil_append,List.cons_append,List.length_cons,List.length_nil,Nat.zero_add,Nat.reduceAdd] at e1 e2 e3
 simp -implicitDefEqProofs [r105,p105,ret0 m37,Rec.o_reify,ra,rb,h1,h2,lit_list1,lit_list2,e1,e2,e3,prep_frz,f1,f2,Rec.sl_len]
 generalize hTT:stripsL (a++b)=T at *
 have hT':T.length≤800:=by omega
 clear e1 e2 e3 f1 f2
 rw [LL_for (γ:=List Slab) T [] (fun i _=>[(33,.int .i64 i)]) (fun i P=>g2++[intR.row 3 q3,slabR.row 200 (P++T.drop i)])
  (fun _ rest P=>(.exit 0,[(33,undef)],g2++[intR.row 3 q3,slabR.row 200 (P++rest.map (fun s=>(⟨s.x0,s.x1,opC f a b s.x0⟩:Slab)))])) (fun i P=>P.length=i) (by omega) rfl]
 ·rw [List.nil_append,mp]
  have hlen:(stripL (opC f a b) (edgesX (a++b))).length=T.length:=by rw [← mp,List.length_map]
  have esl:slabR.sl (g2.length+1) T=slabR.sl (g2.length+1) (stripL (opC f a b) (edgesX (a++b))):=slab_sl_len hlen.symm
  obtain ⟨h',hw⟩:=write_row (h:=g2++[intR.row 3 q3,slabR.row 200 (stripL (opC f a b) (edgesX (a++b)))]) (b:=g2.length+1) (lo:=0) (stripL (opC f a b) (edgesX (a++b))) end2 (Nat.zero_le _) (by omega) (fun s hs=>by
   rw [stripL_mem _ _ s hs]
   have:=mergeC_len f (colL (atO (stripsL a) s.x0)) (colL (atO (stripsL b) s.x0))
   have:=hca s.x0
   have:=hcb s.x0
   unfold opC;omega)
  rw [← esl] at hw
  have eo:outT (runsF (stripL (opC f a b) (edgesX (a++b))))=opL f a b:=rfl
  rw [eo] at hw
  have hlim:=limited_spec false (opL f a b)
  unfold limR
  by_cases h2:(opL f a b).length≤200 <;> simp -implicitDefEqProofs [k105_6,resL,hw,ret1s m160,hlim,h2]
 ·simp -implicitDefEqProofs [k105_6]
 ·rfl
 ·intro nx i P hi hP
  simp -implicitDefEqProofs [r105_6,k105_6,hi,trim_le,List.drop_of_length_le]
 ·intro nx i s rest P hi hv hd hw hP ih
  have hil:i<(P++T.drop i).length:=by rw [List.length_append,List.length_drop];omega
  have hlT:T.length=(P++T.drop i).length:=by rw [List.length_append,List.length_drop];omega
  have hr:T.drop (i+1)=rest:=by rw [← List.drop_drop,hd];rfl
  have el:slabR.sl (g2.length+1) T=slabR.sl (g2.length+1) (P++T.drop i):=slab_sl_len hlT
  have eg:(P++T.drop i)[i]=s:=by
   rw [List.getElem_append_right (by omega)]
   simp only [hP,Nat.sub_self,List.getElem_drop,Nat.add_zero,hv]
  have es:(P++T.drop i).set i ⟨s.x0,s.x1,opC f a b s.x0⟩=P++[⟨s.x0,s.x1,opC f a b s.x0⟩]++T.drop (i+1):=by
   rw [List.set_append_right _ _ (by omega),hP,Nat.sub_self,hd,hr,List.append_assoc];rfl
  have ih:=ih (P++[⟨s.x0,s.x1,opC f a b s.x0⟩]) (by simp;omega)
  have ix:=Rec.index_row (R:=slabR) (h0:=3) (t:=200) (g:=some true) (b:=g2.length+1) (l:=P++T.drop i) (i:=i) (k:=.i64) rfl hil
  rw [← el] at ix
  have ld:=Rec.load_row (R:=slabR) (h:=g2++[intR.row 3 q3,slabR.row 200 (P++T.drop i)]) (b:=g2.length+1) (n:=3) (t:=200) (l:=P++T.drop i) (i:=i) rfl end2 hil
  rw [eg,slab_val] at ld
  have fd:=Rec.field_row (R:=slabR) (b:=g2.length+1) (n:=0) (f:=2) (l:=P++T.drop i) (i:=i) (k:=⟨some true,some 3⟩) (g:=some false)
  have st:=fun q=>Rec.store_cell (R:=slabR) (h:=g2++[intR.row 3 q3,slabR.row 200 (P++T.drop i),q]) (b:=g2.length+1) (j:=2) (lo:=0) (t:=200) (l:=P++T.drop i) (i:=i) (v:=colV (opC f a b s.x0)) (a:=⟨s.x0,s.x1,opC f a b s.x0⟩) rfl get31 (Nat.zero_le _) hil (by decide) (by rw [eg];rfl)
  simp only [es,set31] at st
  have ca:=at_spec (stripsL a) s.x0 (by omega)
  have cb:=at_spec (stripsL b) s.x0 (by omega)
  have cm:=merge_spec (atO (stripsL a) s.x0) (atO (stripsL b) s.x0) q f hq0 hq (by have:=hca s.x0;omega) (by have:=hcb s.x0;omega)
  have so1:settled depth (lst false (slabR.vals (stripsL a)))=true:=rfl
  have so2:settled depth (lst false (slabR.vals (stripsL b)))=true:=rfl
  have so3:∀ z,settled depth (.int .i64 z)=true:=fun _=>rfl
  have sb1:∀ d,below (d+1) (g2.length+2) (slabR.sl 1 (stripsL a))=true:=fun d=>Rec.sl_bel (by omega)
  have sb3:∀ d,below (d+1) (g2.length+2) (slabR.sl 3 (stripsL b))=true:=fun d=>Rec.sl_bel (by omega)
  have so5:∀ c,settled depth (colX c)=true:=fun c=>colX_set c (n:=7)
  have so4:settled depth (.func (.func q) ⟨[]⟩ ⟨[]⟩)=true:=rfl
  have b2:=bel2 (g2.length+2)
  have eR:P++(s :: rest).map (fun s=>(⟨s.x0,s.x1,opC f a b s.x0⟩:Slab))=P++[⟨s.x0,s.x1,opC f a b s.x0⟩]++rest.map (fun s=>(⟨s.x0,s.x1,opC f a b s.x0⟩:Slab)):=by
   rw [List.map_cons,List.append_assoc];rfl
  rw [eR]
  change pureCall _ _ _ _=some (colV (opC f a b s.x0)) at cm
  simp -implicitDefEqProofs [k105_6,-List.append_assoc] at ih
  simp -implicitDefEqProofs [r105_6,k105_6,hi,ix,ld,fd,st,app3,take3,ret1 m164,ret1 m163,so1,so2,so3,so4,so5,ca,cb,cm,hw,trim_cut,Rec.sl_bel,Rec.row_bel,Rec.o_bel,b2,sb1,sb3,-List.append_assoc,-List.all_eq_true]
  exact ih
end Go.Proofs.YtplebjehcgcdeaaGreatDoor.Bm
namespace Go.Proofs.YtplebjehcgcdeaaGreatDoor.Bm
open Go Go.RowKit
open Rg (Rect areaL cell)
def orF (a b:Bool):Bool:=a || b
def andF (a b:Bool):Bool:=a && b
def subF (a b:Bool):Bool:=a && !b
theorem union2_spec (k m:Option Bool) (a b:List Rect) (hk:Rec.Ok k a) (hm:Rec.Ok m b) (ha:a.length≤1000000) (hb:b.length≤1000000) :
  pureCall E.P (L E) 39 [rectR.o k a,rectR.o m b]=some (resL (opR orF a b)):=by
 have key:=combine_spec k m a b 107 orF hk hm rfl union_spec ha hb
 have so:∀ k l,settled depth (rectR.o k l)=true:=fun k l=>Rec.o_set
 have so4:settled depth (.func (.func 107) ⟨[]⟩ ⟨[]⟩)=true:=rfl
 rw [pureCall_fn F39 rfl]
 cases h:opR orF a b <;> rw [h] at key <;> simp -implicitDefEqProofs [r39,padS,ret1 m105,so,so4,key,resL]
theorem common2_spec (k m:Option Bool) (a b:List Rect) (hk:Rec.Ok k a) (hm:Rec.Ok m b) (ha:a.length≤1000000) (hb:b.length≤1000000) :
  pureCall E.P (L E) 70 [rectR.o k a,rectR.o m b]=some (resL (opR andF a b)):=by
 have key:=combine_spec k m a b 135 andF hk hm rfl common_spec ha hb
 have so:∀ k l,settled depth (rectR.o k l)=true:=fun k l=>Rec.o_set
 have so4:settled depth (.func (.func 135) ⟨[]⟩ ⟨[]⟩)=true:=rfl
 rw [pureCall_fn F70 rfl]
 cases h:opR andF a b <;> rw [h] at key <;> simp -implicitDefEqProofs [r70,padS,ret1 m105,so,so4,key,resL]
theorem minus2_spec (k m:Option Bool) (a b:List Rect) (hk:Rec.Ok k a) (hm:Rec.Ok m b) (ha:a.length≤1000000) (hb:b.length≤1000000) :
  pureCall E.P (L E) 38 [rectR.o k a,rectR.o m b]=some (resL (opR subF a b)):=by
 have key:=combine_spec k m a b 106 subF hk hm rfl minus_spec ha hb
 have so:∀ k l,settled depth (rectR.o k l)=true:=fun k l=>Rec.o_set
 have so4:settled depth (.func (.func 106) ⟨[]⟩ ⟨[]⟩)=true:=rfl
 rw [pureCall_fn F38 rfl]
 cases h:opR subF a b <;> rw [h] at key <;> simp -implicitDefEqProofs [r38,padS,ret1 m105,so,so4,key,resL]
theorem area_s (r:Rect) (h:okR r=true):pureCall E.P (L E) 72 [.agg ⟨[.int .i64 r.x0,.int .i64 r.y0,.int .i64 r.x1,.int .i64 r.y1]⟩]=some (.int .i64 r.area):=area_spec r h
theorem area2_spec (k:Option Bool) (l:List Rect) (hk:Rec.Ok k l) (hl:l.length≤1000000):pureCall E.P (L E) 71 [rectR.o k l]=some (.int .i64 (if regB l then areaL l else 0)):=by
 have hr:=right2_spec k l hk hl
 rw [pureCall_fn F71 rfl]
 cases h:regB l
 ·simp -implicitDefEqProofs [r71,p71,ret0 m37,Rec.o_reify,hr,h]
 ·obtain ⟨h1,h2,_⟩:=regB_iff.1 h
  have hok:∀ r∈l,okR r=true:=List.all_eq_true.1 h1
  simp -implicitDefEqProofs [r71,p71,ret0 m37,Rec.o_reify,hr,h,Rec.o_len hk]
  rw [LL_for (γ:=Int) l 0 (fun i n=>[(3,.int .i64 n),(11,.int .i64 i)]) (fun _ _=>[]) (fun _ rest n=>(.exit 0,[(3,.int .i64 (n+areaL rest)),(11,undef)],[])) (fun i n=>0≤n∧n≤i * 1099511627776) (by omega) ⟨Int.le_refl _,by omega⟩]
  ·simp -implicitDefEqProofs [k71_5]
  ·simp -implicitDefEqProofs [k71_5]
  ·rfl
  ·intro nx i c hi _
   simp -implicitDefEqProofs [r71_5,k71_5,hi,trim_le,areaL]
  ·intro nx i r rest n hi hv hd hw hn ih
   have hrr:=hok r (by rw [← hv];exact List.getElem_mem hi)
   have hb:=area_bound hrr
   have ixi:=Rec.o_index (R:=rectR) (t:=56) (kk:=.i64) (s:=4) rfl hk hi
   rw [hv] at ixi
   have ar:=area_s r hrr
   have w1:IntKind.i64.wrap (n+r.area)=n+r.area:=wrap64 (by omega) (by omega)
   have ih:=ih (n+r.area) ⟨by omega,by push_cast;omega⟩
   have e:n+areaL (r :: rest)=n+r.area+areaL rest:=by show n+(r.area+areaL rest)=_;omega
   rw [e]
   simp -implicitDefEqProofs [k71_5] at ih
   simp -implicitDefEqProofs [r71_5,k71_5,hi,ixi,rect_val,ret0 m72,ar,w1,hw,trim_cut,Rec.o_bel]
   exact ih
end Go.Proofs.YtplebjehcgcdeaaGreatDoor.Bm
namespace Go.Proofs.YtplebjehcgcdeaaGreatDoor.Rg
theorem canS_all:∀ {c:List (Int × Int)} {b:Int},canS b c→∀ s∈c,s.1<s.2
 | [],_,_,s,hs=>by cases hs
 | (f,t) :: c,b,h,s,hs=>by
  rcases List.mem_cons.1 hs with rfl | hs
  ·exact h.2.1
  ·exact canS_all h.2.2 s hs
theorem Can.all {c:List (Int × Int)} (h:Can c):∀ s∈c,s.1<s.2:=by
 obtain ⟨b,hb,_⟩:=low_ex c []
 exact canS_all (canS_ex h b hb)
theorem Form.pos {l:List Rect} (h:Form l):∀ r∈l,r.x0<r.x1∧r.y0<r.y1:=by
 obtain ⟨b,T,hT,rfl⟩:=h
 intro r hr
 obtain ⟨s,hs,hr⟩:=List.mem_flatMap.1 hr
 obtain ⟨c,hc,rfl⟩:=List.mem_map.1 hr
 have h1:=(canT_facts hT).2 s hs
 exact ⟨h1.2.1,h1.2.2.all c hc⟩
theorem cell_true {l:List Rect} {x y:Int}:cell l x y=true↔∃ r∈l,r.x0≤x∧x<r.x1∧r.y0≤y∧y<r.y1:=by
 unfold cell Rect.has
 rw [List.any_eq_true]
 simp only [Bool.and_eq_true,decide_eq_true_eq]
 exact ⟨fun ⟨r,hr,h⟩=>⟨r,hr,h.1.1,h.1.2,h.2.1,h.2.2⟩,fun ⟨r,hr,h1,h2,h3,h4⟩=>⟨r,hr,⟨h1,h2⟩,h3,h4⟩⟩
theorem Form.box {l:List Rect} (h:Form l) {n:Int} (hb:∀ x y,cell l x y=true→0≤x∧x<n∧0≤y∧y<n):∀ r∈l,r.inBox n:=by
 intro r hr
 have hp:=h.pos r hr
 have h1:=hb r.x0 r.y0 (cell_true.2 ⟨r,hr,by omega,by omega,by omega,by omega⟩)
 have h2:=hb (r.x1-1) (r.y1-1) (cell_true.2 ⟨r,hr,by omega,by omega,by omega,by omega⟩)
 unfold Rect.inBox
 omega
theorem cell_box {l:List Rect} {n:Int} (h:∀ r∈l,r.inBox n) {x y:Int} (hc:cell l x y=true):0≤x∧x<n∧0≤y∧y<n:=by
 obtain ⟨r,hr,h1,h2,h3,h4⟩:=cell_true.1 hc
 have:=h r hr
 unfold Rect.inBox at this
 omega
end Go.Proofs.YtplebjehcgcdeaaGreatDoor.Rg
namespace Go.Proofs.YtplebjehcgcdeaaGreatDoor.Bm
open Go Go.RowKit
open Rg (Rect cell opL areaL)
theorem form1 {r:Rect} (h1:r.x0<r.x1) (h2:r.y0<r.y1):Rg.Form [r] :=
 ⟨r.x0,[⟨r.x0,r.x1,[(r.y0,r.y1)]⟩],⟨Int.le_refl _,h1,by simp,⟨h2,trivial⟩,fun _=>by simp,trivial⟩,rfl⟩
theorem reg1 {r:Rect} (h:okR r=true):regB [r]=true:=by
 have hb:=okR_iff.1 h
 unfold Rg.Rect.inBox at hb
 exact regB_iff.2 ⟨by simpa using h,by show 1≤200;omega,form1 (by omega) (by omega)⟩
theorem reg_y {l:List Rect} (h:regB l=true):∀ r∈l,r.y0<r.y1:=ofL_ok' (regB_iff.1 h).1
theorem reg_in {l:List Rect} (h:regB l=true):∀ r∈l,r.inBox 1048576:=fun r hr=>okR_iff.1 (List.all_eq_true.1 (regB_iff.1 h).1 r hr)
theorem op_form (f:Bool→Bool→Bool) (hf:f false false=false) {a b:List Rect} (ha:regB a=true) (hb:regB b=true):Rg.Form (opL f a b)∧∀ x y,cell (opL f a b) x y=f (cell a x y) (cell b x y):=Rg.opL_ok f hf (reg_y ha) (reg_y hb)
theorem op_in (f:Bool→Bool→Bool) (hf:f false false=false) {a b:List Rect} (ha:regB a=true) (hb:regB b=true):∀ r∈opL f a b,r.inBox 1048576:=by
 obtain ⟨h1,h2⟩:=op_form f hf ha hb
 refine h1.box fun x y hc=>?_
 rw [h2] at hc
 cases hA:cell a x y with
 | true=>exact Rg.cell_box (reg_in ha) hA
 | false =>
  cases hB:cell b x y with
  | true=>exact Rg.cell_box (reg_in hb) hB
  | false=>rw [hA,hB,hf] at hc;cases hc
theorem op_reg (f:Bool→Bool→Bool) (hf:f false false=false) {a b:List Rect} (ha:regB a=true) (hb:regB b=true) (hl:(opL f a b).length≤200):regB (opL f a b)=true :=
 regB_iff.2 ⟨List.all_eq_true.2 fun r hr=>okR_iff.2 (op_in f hf ha hb r hr),hl,(op_form f hf ha hb).1⟩
def insB (A:List Rect) (r:Rect):Bool:=decide (opL subF [r] A=[])
theorem form_nil {l:List Rect} (h:Rg.Form l) (hc:∀ x y,cell l x y=false):l=[] :=
 h.ext Rg.Form.nil fun x y=>by rw [hc];rfl
theorem ins_iff {A:List Rect} {r:Rect} (hA:regB A=true) (hr:okR r=true):insB A r=true↔∀ x y,cell [r] x y=true→cell A x y=true:=by
 obtain ⟨h1,h2⟩:=op_form subF rfl (reg1 hr) hA
 unfold insB
 rw [decide_eq_true_iff]
 constructor
 ·intro h x y hx
  have:=h2 x y
  rw [h,hx] at this
  cases hc:cell A x y with
  | true=>rfl
  | false=>rw [hc] at this;cases this
 ·intro h
  refine form_nil h1 fun x y=>?_
  rw [h2]
  cases hx:cell [r] x y with
  | false=>rfl
  | true=>rw [h x y hx];rfl
theorem minus_ins {A:List Rect} {r:Rect} (hA:regB A=true) (hr:okR r=true):opR subF [r] A=if insB A r then .ok [] else if (opL subF [r] A).length≤200 then .ok (opL subF [r] A) else .error 6:=by
 unfold opR limR insB
 rw [reg1 hr,hA]
 by_cases h:opL subF [r] A=[]
 ·rw [decide_eq_true h,h];rfl
 ·rw [decide_eq_false h];rfl
theorem area_pos {l:List Rect} (h:∀ r∈l,r.inBox 1048576) (hl:l≠[]):0<areaL l:=by
 have key:∀ m:List Rect,(∀ r∈m,r.inBox 1048576)→0≤areaL m:=fun m=>by
  induction m with
  | nil=>intro;exact Int.le_refl _
  | cons r m ih =>
   intro hm
   have h1:=hm r (by simp)
   have h2:=ih fun q hq=>hm q (List.mem_cons_of_mem _ hq)
   unfold Rect.inBox at h1
   show 0≤r.area+areaL m
   have:0≤r.area:=Int.mul_nonneg (by omega) (by omega)
   omega
 cases l with
 | nil=>exact absurd rfl hl
 | cons r m =>
  have h1:=h r (by simp)
  have h2:=key m fun q hq=>h q (List.mem_cons_of_mem _ hq)
  unfold Rect.inBox at h1
  show 0<r.area+areaL m
  have:0<r.area:=Int.mul_pos (by omega) (by omega)
  omega
theorem area_split {A:List Rect} {r:Rect} (hA:regB A=true) (hr:okR r=true):areaL (opL andF A [r])+areaL (opL subF [r] A)=r.area:=by
 obtain ⟨h1,h2⟩:=op_form andF rfl hA (reg1 hr)
 obtain ⟨h3,h4⟩:=op_form subF rfl (reg1 hr) hA
 have i1:=op_in andF rfl hA (reg1 hr)
 have i3:=op_in subF rfl (reg1 hr) hA
 have hb:=okR_iff.1 hr
 have hr2:(r.x0:Int)<r.x1∧r.y0<r.y1:=by unfold Rg.Rect.inBox at hb;omega
 have e0:areaL [r]=r.area:=by show r.area+0=_;omega
 rw [← e0,Rg.area_form (n:=1048576) h1 i1,Rg.area_form (n:=1048576) h3 i3,Rg.area_form (n:=1048576) (form1 hr2.1 hr2.2) (by simpa using hb)]
 have:=Rg.cnt_add (n:=1048576) (S:=cell (opL andF A [r])) (T:=cell (opL subF [r] A)) (U:=cell [r]) (V:=fun _ _=>false) fun x y=>by
  rw [h2,h4]
  cases cell A x y <;> cases cell [r] x y <;> rfl
 rw [Rg.cnt_none] at this
 omega
theorem common_ins {A:List Rect} {r:Rect} (hA:regB A=true) (hr:okR r=true) :
  (insB A r=true∧opR andF A [r]=.ok [r]∧areaL [r]=r.area)∨(insB A r=false∧((∃ l,opR andF A [r]=.ok l∧regB l=true∧areaL l<r.area)∨opR andF A [r]=.error 6)):=by
 obtain ⟨h1,h2⟩:=op_form andF rfl hA (reg1 hr)
 have hs:=area_split hA hr
 have hb:=okR_iff.1 hr
 have hr2:(r.x0:Int)<r.x1∧r.y0<r.y1:=by unfold Rg.Rect.inBox at hb;omega
 cases hi:insB A r with
 | true =>
  refine .inl ⟨rfl,?_,by show r.area+0=_;omega⟩
  have hc:=(ins_iff hA hr).1 hi
  have e:opL andF A [r]=[r]:=h1.ext (form1 hr2.1 hr2.2) fun x y=>by
   rw [h2]
   cases hx:cell [r] x y with
   | false=>cases cell A x y <;> rfl
   | true=>rw [hc x y hx];rfl
  unfold opR limR
  rw [hA,reg1 hr,e];rfl
 | false =>
  refine .inr ⟨rfl,?_⟩
  have hne:opL subF [r] A≠[]:=by unfold insB at hi;exact of_decide_eq_false hi
  have hp:=area_pos (op_in subF rfl (reg1 hr) hA) hne
  unfold opR limR
  rw [hA,reg1 hr]
  by_cases hl:(opL andF A [r]).length≤200
  ·refine .inl ⟨opL andF A [r],by simp [hl],op_reg andF rfl hA (reg1 hr) hl,by omega⟩
  ·exact .inr (by simp [hl])
theorem union_ins {A L:List Rect} {m:Rect} (hA:regB A=true) (h:opR orF A [m]=.ok L):regB L=true∧L.length≤200∧∀ r,okR r=true→insB A r=true→insB L r=true:=by
 unfold opR limR at h
 cases hm:regB [m] with
 | false=>rw [hm,Bool.and_false] at h;cases h
 | true =>
  rw [hA,hm,Bool.and_self,if_pos rfl] at h
  split at h
  ·rename_i hl
   obtain rfl:=Except.ok.inj h
   have hL:=op_reg orF rfl hA hm hl
   refine ⟨hL,hl,fun r hr hi=>(ins_iff hL hr).2 fun x y hx=>?_⟩
   rw [(op_form orF rfl hA hm).2,(ins_iff hA hr).1 hi x y hx];rfl
  ·cases h
end Go.Proofs.YtplebjehcgcdeaaGreatDoor.Bm
