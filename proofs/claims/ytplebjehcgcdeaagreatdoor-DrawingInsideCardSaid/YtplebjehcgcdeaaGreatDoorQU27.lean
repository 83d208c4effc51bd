/-
 Regions, plain: what the program's operations make of lists of rectangles. Conditions: none. No program in sight.
-/
import Derived.Test.YtplebjehcgcdeaaGreatDoorQU26
namespace Go.Proofs.YtplebjehcgcdeaaGreatDoor.Bm
open Go Go.RowKit
open Rg (Rect Slab own own_cons gstep colC)
theorem s59:szOf E.P 234=some 2:=by kernel_rfl
theorem a59:aggT E.P 234=some true:=by kernel_rfl
theorem lit_span (h:Heap) (a b:Int):buildSliceT (some ⟨234,2,16,.agg ⟨[.int .i64 0,.int .i64 0]⟩,⟨some true,some 2⟩⟩) false h 1 #[(0,.agg ⟨[.int .i64 a,.int .i64 b]⟩)]=some (lst true [.agg ⟨[.int .i64 a,.int .i64 b]⟩],h) :=
 (build_lit' (n:=1) (l:=[(0,.agg ⟨[.int .i64 a,.int .i64 b]⟩)]) rfl rfl (by decide) (by decide) (by decide)).trans rfl
theorem app_span {h:Heap} {b:Nat} {c:List (Int × Int)} (u v:Int) (hob:h[b]?=some (spanR.row 234 c)) (hc:c.length≤1000000) :
  appendT (some ⟨234,2,16,.agg ⟨[.int .i64 0,.int .i64 0]⟩,⟨some true,some 2⟩⟩) h 0 false (spanR.sl b c) (lst true [.agg ⟨[.int .i64 u,.int .i64 v]⟩])=some (spanR.sl b (c++[(u,v)]),h.set b (spanR.row 234 (c++[(u,v)]))) :=
 Rec.app (R:=spanR) (m:=[(u,v)]) rfl hob (Rec.cells_tree (R:=spanR) rfl [(u,v)]) (Nat.zero_le _) (by show (c.length+1) * 16≤2 ^ 47;omega)
theorem set_same6 {h:Heap} {b:Nat} {o:AObj} (hob:h[b]?=some o):h.set b o=h:=by
 refine List.ext_getElem? fun i=>?_
 rw [List.getElem?_set]
 split
 ·rename_i e;subst e
  split
  ·exact hob.symm
  ·rename_i hlt;rw [List.getElem?_eq_none (by omega)]
 ·rfl
theorem sort_spec {h:Heap} {b lo:Nat} {d:List (Int × Int)} (hob:h[b]?=some (spanR.row 234 d)) (hlo:lo≤b) (hd:d.length≤1000000) :
  L E 229 [spanR.sl b d,.func (.func 230) ⟨[]⟩ ⟨[]⟩] h lo=some (.tuple #[],h.set b (spanR.row 234 (sortS d))):=by
 rw [L_orc (g:=inC 230 2 sortSF) rfl]
 unfold inC Rec.sl
 simp only
 rw [if_pos ⟨trivial,Nat.le_refl _⟩]
 by_cases h0:d.length=0
 ·have:d=[]:=List.eq_nil_of_length_eq_zero h0
  subst this
  rw [if_pos h0]
  have e:sortS []=[]:=List.eq_nil_of_length_eq_zero (sortS_perm []).length_eq
  rw [e,set_same6 hob]
 ·rw [if_neg h0]
  have hob':h[b]?=some (.cells 234 (spanR.flat d) 2):=hob
  have hl:(spanR.flat d).length=d.length * 2:=Rec.flat_len
  unfold inCR
  simp only [hob']
  have e1:(spanR.flat d).take (d.length * 2)=d.flatMap spanV:=by rw [List.take_of_length_le (by omega)];rfl
  rw [e1,sortSF_flat,Option.bind_some,if_pos ⟨hlo,by unfold stampOk;rw [hl];simp [spanR],trivial,by omega,by omega⟩]
  rw [List.drop_of_length_le (by omega),List.append_nil];rfl
theorem own_len (l:List Rect) (x:Int):(own l x).length≤l.length:=by
 unfold own
 rw [List.length_map];exact List.length_filter_le _ _
theorem gstep_set {o:List (Int × Int)} {m:Nat} (hm:o.length=m+1) (t:Int × Int) (h:t.1≤(o[m]'(by omega)).2):gstep o t=o.set m ((o[m]'(by omega)).1,max (o[m]'(by omega)).2 t.2):=by
 have ho:o.getLast?=some (o[m]'(by omega)):=by
  have hl:o.length-1=m:=by omega
  have hm':m<o.length:=by omega
  rw [List.getLast?_eq_getElem?,hl,List.getElem?_eq_getElem hm']
 unfold gstep
 rw [ho]
 simp only
 rw [if_pos h]
 apply List.ext_getElem?
 intro i
 by_cases e:i=m
 ·subst e
  rw [List.getElem?_append_right (by simp [hm]),List.getElem?_set_self (by omega)]
  simp [hm]
 ·rw [List.getElem?_set_ne (Ne.symm e)]
  by_cases hi:i<m
  ·rw [List.getElem?_append_left (by simp [hm];omega),List.getElem?_dropLast,if_pos (by omega)]
  ·rw [List.getElem?_eq_none (by simp [hm];omega),List.getElem?_eq_none (by omega)]
theorem gstep_add {o:List (Int × Int)} {m:Nat} (hm:o.length=m+1) (t:Int × Int) (h:¬ t.1≤(o[m]'(by omega)).2):gstep o t=o++[t]:=by
 have ho:o.getLast?=some (o[m]'(by omega)):=by
  have hl:o.length-1=m:=by omega
  have hm':m<o.length:=by omega
  rw [List.getLast?_eq_getElem?,hl,List.getElem?_eq_getElem hm']
 unfold gstep
 rw [ho]
 simp only
 rw [if_neg h]
theorem gstep_len (o:List (Int × Int)) (t:Int × Int):(gstep o t).length≤o.length+1:=by
 unfold gstep
 split
 ·split
  ·simp
  ·simp
 ·simp
theorem sl_eq {b:Nat} {c d:List (Int × Int)} (h:c.length=d.length):spanR.sl b c=spanR.sl b d:=by unfold Rec.sl;rw [h]
theorem max_int (a b:Int):aMinMax true [.int .i64 a,.int .i64 b]=some (.int .i64 (max a b)):=by
 show some (Value.int .i64 (if b > a then b else a))=_
 congr 2
 omega
theorem column_spec (k:Option Bool) (l:List Rect) (x:Int) (hk:Rec.Ok k l) (hl:l.length≤1000):pureCall E.P (L E) 206 [rectR.o k l,.int .i64 x]=some (colV (colC l x)):=by
 rw [pureCall_fn F206 rfl]
 simp -implicitDefEqProofs [r206,p206,prep_new,newK_nil s59,Rec.o_len hk]
 rw [LL_for (γ:=List (Int × Int)) l [] (fun i c=>[(5,spanR.sl 0 c),(14,.int .i64 i)]) (fun _ c=>[spanR.row 234 c])
  (fun _ rest c=>(.exit 0,[(5,spanR.sl 0 (c++own rest x)),(14,undef)],[spanR.row 234 (c++own rest x)])) (fun i c=>c.length≤i) (by omega) (Nat.le_refl _)]
 ·rw [List.nil_append]
  have hs:=fun h=>sort_spec (h:=[spanR.row 234 (own l x)]++h) (b:=0) (lo:=0) (d:=own l x) rfl (Nat.le_refl _) (by have:=own_len l x;omega)
  have hs:=hs []
  rw [List.append_nil] at hs
  have hse:(own l x).length=(sortS (own l x)).length:=(sortS_perm _).length_eq.symm
  have hle:=own_len l x
  simp -implicitDefEqProofs [k206_3,ret2 (E:=E) (f:=229) rfl,hs,prep_new,newK_nil s59,Rec.sl_len]
  rw [sl_eq (b:=0) hse,hse]
  have hc:colC l x=(sortS (own l x)).foldl gstep []:=(Rg.gstep_col _).symm
  rw [hc]
  rw [hse] at hle
  clear hs hse hc
  generalize sortS (own l x)=s at hle ⊢
  rw [LL_for (γ:=List (Int × Int)) s [] (fun i o=>[(8,spanR.sl 1 o),(41,.int .i64 i)]) (fun _ o=>[spanR.row 234 s,spanR.row 234 o])
   (fun _ rest o=>(.exit 2,[(8,spanR.sl 1 (rest.foldl gstep o)),(41,undef)],[spanR.row 234 s,spanR.row 234 (rest.foldl gstep o)])) (fun i o=>o.length≤i) (by omega) (Nat.le_refl _)]
  ·have rr:=Rec.reifyR_row (R:=spanR) (P:=E.P) (h:=[spanR.row 234 s,spanR.row 234 (s.foldl gstep [])]) (b:=1) (t:=234) (l:=s.foldl gstep []) rfl s59 a59
   simp -implicitDefEqProofs [k206_11,rr,colV]
  ·simp -implicitDefEqProofs [k206_11,Rec.sl_nil]
  ·rfl
  ·intro nx i o hi _
   simp -implicitDefEqProofs [r206_11,k206_11,hi,trim_le]
  ·intro nx i t rest o hi hv hd hw ho ih
   have ih:=ih (gstep o t) (by have:=gstep_len o t;omega)
   simp -implicitDefEqProofs [k206_11] at ih
   rw [List.foldl_cons]
   have ixs:=Rec.index_row (R:=spanR) (h0:=2) (t:=234) (g:=some true) (b:=0) (l:=s) (i:=i) (k:=.i64) rfl hi
   have lds:=Rec.load_row (R:=spanR) (h:=[spanR.row 234 s,spanR.row 234 o]) (b:=0) (n:=2) (t:=234) (l:=s) (i:=i) rfl rfl hi
   rw [hv,span_val] at lds
   have ap:=fun q=>app_span (h:=[spanR.row 234 s,spanR.row 234 o,q]) (b:=1) (c:=o) t.1 t.2 rfl (by omega)
   by_cases h0:o=[]
   ·subst h0
    have e:gstep [] t=[]++[(t.1,t.2)]:=rfl
    rw [e] at ih ⊢
    simp -implicitDefEqProofs [r206_11,k206_11,hi,ixs,lds,Rec.sl_len,lit_span,ap,hw,trim_cut,Rec.sl_bel,Rec.row_bel,Rec.o_bel]
    simpa using ih
   ·obtain ⟨m,hm⟩:∃ m,o.length=m+1:=⟨o.length-1,by have:=List.length_pos_iff.2 h0;omega⟩
    have hm':m<o.length:=by omega
    have w1:IntKind.i64.wrap ((o.length:Int)-1)=(m:Int):=by rw [wrap64 (by omega) (by omega)];omega
    have hpos:0<o.length:=by omega
    have ixo:=Rec.index_row (R:=spanR) (h0:=2) (t:=234) (g:=some true) (b:=1) (l:=o) (i:=m) (k:=.i64) rfl hm'
    have fdo:=Rec.field_row (R:=spanR) (b:=1) (n:=0) (f:=1) (l:=o) (i:=m) (k:=⟨some true,some 2⟩) (g:=some false)
    have ldo:=fun q=>Rec.load_cell (R:=spanR) (h:=[spanR.row 234 s,spanR.row 234 o,q]) (b:=1) (j:=1) (t:=234) (l:=o) (i:=m) (sz:=some 1) rfl hm' (by decide)
    have e1:(spanR.enc o[m])[1]?=some (.int .i64 o[m].2):=rfl
    simp only [e1] at ldo
    have sto:=fun q (v:Int)=>Rec.store_cell (R:=spanR) (h:=[spanR.row 234 s,spanR.row 234 o,q]) (b:=1) (j:=1) (lo:=0) (t:=234) (l:=o) (i:=m) (v:=.int .i64 v) (a:=(o[m].1,v)) rfl rfl (Nat.zero_le _) hm' (by decide) rfl
    by_cases h1:t.1≤o[m].2
    ·rw [gstep_set hm t h1] at ih ⊢
     have el:spanR.sl 1 (o.set m (o[m].1,max o[m].2 t.2))=spanR.sl 1 o:=sl_eq (by simp)
     rw [el] at ih
     simp -implicitDefEqProofs [r206_11,k206_11,hi,ixs,lds,Rec.sl_len,hpos,w1,ixo,fdo,ldo,sto,h1,max_int,hw,trim_cut,Rec.sl_bel,Rec.row_bel,Rec.o_bel]
     exact ih
    ·rw [gstep_add hm t h1] at ih ⊢
     simp -implicitDefEqProofs [r206_11,k206_11,hi,ixs,lds,Rec.sl_len,hpos,w1,ixo,fdo,ldo,h1,lit_span,ap,hw,trim_cut,Rec.sl_bel,Rec.row_bel,Rec.o_bel]
     exact ih
 ·simp -implicitDefEqProofs [k206_3,Rec.sl_nil]
 ·rfl
 ·intro nx i c hi _
  simp -implicitDefEqProofs [r206_3,k206_3,hi,trim_le,own]
 ·intro nx i r rest c hi hv hd hw hc ih
  have ixi:=Rec.o_index (R:=rectR) (t:=56) (kk:=.i64) (s:=4) rfl hk hi
  rw [hv] at ixi
  have ap:=fun o=>app_span (h:=[spanR.row 234 c,o]) (b:=0) (c:=c) r.y0 r.y1 rfl (by omega)
  rw [own_cons]
  by_cases h1:r.x0≤x
  ·by_cases h2:x<r.x1
   ·have ih:=ih (c++[(r.y0,r.y1)]) (by simp;omega)
    rw [if_pos ⟨h1,h2⟩,← List.append_assoc]
    simp -implicitDefEqProofs [k206_3,-List.append_assoc] at ih
    simp -implicitDefEqProofs [r206_3,k206_3,hi,ixi,rect_val,h1,h2,b2_all,lit_span,ap,hw,trim_cut,Rec.sl_bel,Rec.row_bel,Rec.o_bel,-List.append_assoc]
    exact ih
   ·have ih:=ih c (by omega)
    rw [if_neg (fun e=>h2 e.2),List.nil_append]
    simp -implicitDefEqProofs [k206_3] at ih
    simp -implicitDefEqProofs [r206_3,k206_3,hi,ixi,rect_val,h1,h2,hw,trim_cut,Rec.sl_bel,Rec.row_bel,Rec.o_bel]
    exact ih
  ·have ih:=ih c (by omega)
   rw [if_neg (fun e=>h1 e.1),List.nil_append]
   simp -implicitDefEqProofs [k206_3] at ih
   simp -implicitDefEqProofs [r206_3,k206_3,hi,ixi,rect_val,h1,hw,trim_cut,Rec.sl_bel,Rec.row_bel,Rec.o_bel]
   exact ih
end Go.Proofs.YtplebjehcgcdeaaGreatDoor.Bm
namespace Go.Proofs.YtplebjehcgcdeaaGreatDoor.Bm
open Go Go.RowKit
def intR:Rec Int where
 enc a:=[.int .i64 a]
 m:=0
 len _:=rfl
 set _:=rfl
 bel _ _:=rfl
theorem int_flat (l:List Int):intR.flat l=l.map (.int .i64):=by
 induction l with
 | nil=>rfl
 | cons a l ih=>show Value.int .i64 a :: intR.flat l=_;rw [ih];rfl
theorem lit_two (h:Heap) (a b:Int):buildSliceT (some ⟨3,1,8,.int .i64 0,⟨some false,some 1⟩⟩) false h 2 #[(0,.int .i64 a),(1,.int .i64 b)]=some (lst true [.int .i64 a,.int .i64 b],h) :=
 (build_lit' (n:=2) (l:=[(0,.int .i64 a),(1,.int .i64 b)]) rfl rfl (by decide) (by decide) (by decide)).trans rfl
theorem app_two {h:Heap} {b:Nat} {c:List Int} (u v:Int) (hob:h[b]?=some (intR.row 3 c)) (hc:c.length≤1000000) :
  appendT (some ⟨3,1,8,.int .i64 0,⟨some false,some 1⟩⟩) h 0 false (intR.sl b c) (lst true [.int .i64 u,.int .i64 v])=some (intR.sl b (c++[u,v]),h.set b (intR.row 3 (c++[u,v]))) :=
 Rec.app (R:=intR) (m:=[u,v]) rfl hob (cells_lst (by rfl)) (Nat.zero_le _) (by show (c.length+2) * 8≤2 ^ 47;omega)
theorem sortInts {h:Heap} {b lo:Nat} {d:List Int} (hob:h[b]?=some (intR.row 3 d)) (hlo:lo≤b) (hd:d.length≤1000000) :
  L E 172 [intR.sl b d] h lo=some (.tuple #[],h.set b (intR.row 3 (sortI d))):=by
 rw [L_orc (g:=inG sortI none) rfl]
 by_cases h0:d.length=0
 ·have:d=[]:=List.eq_nil_of_length_eq_zero h0
  subst this
  have e:h.set b (intR.row 3 (sortI []))=h:=set_same6 hob
  rw [e]
  rfl
 ·have hob':h[b]?=some (.cells 3 ((d++[]).map (.int .i64)) (0+1)):=by
   rw [List.append_nil,← int_flat];exact hob
  have key:=inG_ints (F:=sortI) (N:=none) (lo:=lo) (k:=d.length) (n:=d.length) (c:=d.length) (zs:=d) (ys:=[]) hob' hlo (by simp) rfl h0 (by omega)
  have e1:intR.sl b d=.slice (some ⟨b,0,some d.length⟩) d.length d.length:=by unfold Rec.sl;simp [intR]
  rw [e1,key]
  congr 2
  unfold Rec.row
  rw [List.append_nil,int_flat];rfl
def preS (b n:Nat) (e:List Int):Value:=.slice (some ⟨b,0,some n⟩) e.length n
theorem compInts {h:Heap} {b lo:Nat} {d:List Int} (hob:h[b]?=some (intR.row 3 d)) (hlo:lo≤b) (hd:d.length≤1000000) :
  ∃ r,L E 173 [intR.sl b d] h lo=some (preS b d.length (compI d),h.set b (intR.row 3 (compI d++r)))∧(compI d++r).length=d.length:=by
 rw [L_orc (g:=inG compF (some compN)) rfl]
 by_cases h0:d.length=0
 ·have:d=[]:=List.eq_nil_of_length_eq_zero h0
  subst this
  refine ⟨[],?_,rfl⟩
  have e:h.set b (intR.row 3 (compI []++[]))=h:=set_same6 hob
  rw [e]
  rfl
 ·have hob':h[b]?=some (.cells 3 ((d++[]).map (.int .i64)) (0+1)):=by
   rw [List.append_nil,← int_flat];exact hob
  have key:=inG_ints (F:=compF) (N:=some compN) (lo:=lo) (k:=d.length) (n:=d.length) (c:=d.length) (zs:=d) (ys:=[]) hob' hlo (by simp) rfl h0 (by omega)
  have e1:intR.sl b d=.slice (some ⟨b,0,some d.length⟩) d.length d.length:=by unfold Rec.sl;simp [intR]
  refine ⟨List.replicate (d.length-(compI d).length) 0,?_,compF_len d⟩
  rw [e1,key]
  congr 2
  unfold Rec.row
  rw [List.append_nil,int_flat];rfl
theorem pre_len {h:Heap} {b n:Nat} {e:List Int}:lenT .sl h (preS b n e)=some (.int .i64 e.length):=rfl
theorem pre_index {t:TypeId} {g:Option Bool} {b n i:Nat} {e:List Int} {k:IntKind} (h1:i<e.length):indexAddrT (.sl t ⟨g,some 1⟩) (preS b n e) (.int k (i:Int))=some (.pointer (some ⟨b,i,some n⟩)):=by
 unfold preS
 rw [index_slice,if_pos ⟨by omega,by omega⟩]
 simp [shift]
theorem pre_load {h:Heap} {b n i:Nat} {e r:List Int} {sz:Option Nat} (hob:h[b]?=some (intR.row 3 (e++r))) (hn:(e++r).length=n) (h1:i<e.length):loadT ⟨some false,sz⟩ h (.pointer (some ⟨b,i,some n⟩))=some (.int .i64 e[i]):=by
 subst hn
 have key:=Rec.load_cell (R:=intR) (h:=h) (b:=b) (j:=0) (t:=3) (l:=e++r) (i:=i) (sz:=sz) hob (by rw [List.length_append];omega) (by decide)
 unfold Rec.at_ at key
 have e1:(e++r)[i]'(by rw [List.length_append];omega)=e[i]:=List.getElem_append_left h1
 simp only [e1,show intR.m+1=1 from rfl,Nat.mul_one,Nat.add_zero] at key
 exact key
open Rg (ends keepS addS sortU)
def colP (a b:Option (List (Int × Int))):List (Option Bool × List (Int × Int)):=[(a.map fun _=>false,colL a),(b.map fun _=>false,colL b)]
theorem colX_o (a:Option (List (Int × Int))):colX a=spanR.o (a.map fun _=>false) (colL a):=by cases a <;> rfl
theorem colX_set (a:Option (List (Int × Int))) {n:Nat}:settled (n+1) (colX a)=true:=by cases a <;> rfl
theorem colX_bel (a:Option (List (Int × Int))) {d n:Nat}:below (d+1) n (colX a)=true:=by cases a <;> rfl
theorem colX_reify (a:Option (List (Int × Int))) {P:Program} {n:Nat} {h:Heap}:reify P (n+1) h (colX a)=some (colX a):=by cases a <;> rfl
theorem lit_cols (h:Heap) (a b:Option (List (Int × Int))):buildSliceT (some ⟨198,1,24,.slice none 0 0,⟨some false,some 1⟩⟩) false h 2 #[(0,colX a),(1,colX b)]=some (lst true [colX a,colX b],h):=by
 cases a <;> cases b <;> exact (build_lit' (n:=2) (l:=[(0,colX _),(1,colX _)]) rfl rfl (by decide) (by decide) (by decide)).trans rfl
theorem concat_cols (a b:Option (List (Int × Int))) (ha:(colL a).length≤10000) (hb:(colL b).length≤10000) :
  ∃ k,Rec.Ok k (colL a++colL b)∧pureCall E.P (L E) 207 [lst true [colX a,colX b]]=some (spanR.o k (colL a++colL b)):=by
 have ok:∀ p∈colP a b,Rec.Ok p.1 p.2:=by
  intro p hp
  simp only [colP,List.mem_cons,List.not_mem_nil,or_false] at hp
  rcases hp with rfl | rfl
  ·cases a with
   | none=>exact fun _=>rfl
   | some a=>exact Rec.ok_some
  ·cases b with
   | none=>exact fun _=>rfl
   | some b=>exact Rec.ok_some
 have key:=spans_concat true (colP a b) ok (by show 2≤1000;omega) (by show (colL a).length+((colL b).length+0)≤1000000;omega)
 have e1:(colP a b).map (fun p=>spanR.o p.1 p.2)=[colX a,colX b]:=by rw [colX_o a,colX_o b];rfl
 have e2:allP (colP a b)=colL a++colL b:=by show colL a++(colL b++[])=_;rw [List.append_nil]
 rw [e1,e2] at key
 refine ⟨_,fun hk=>?_,key⟩
 split at hk
 ·rename_i h0
  have:(allP (colP a b)).length=0:=by rw [tot_all,h0]
  rw [e2] at this
  exact List.eq_nil_of_length_eq_zero this
 ·cases hk
theorem ends_cons (s:Int × Int) (l:List (Int × Int)):ends (s :: l)=[s.1,s.2]++ends l:=rfl
theorem addS_set {o:List (Int × Int)} {m:Nat} (hm:o.length=m+1) (x y:Int) (h:(o[m]'(by omega)).2=x):addS o x y=o.set m ((o[m]'(by omega)).1,y):=by
 have ho:o.getLast?=some (o[m]'(by omega)):=by
  have hl:o.length-1=m:=by omega
  have hm':m<o.length:=by omega
  rw [List.getLast?_eq_getElem?,hl,List.getElem?_eq_getElem hm']
 unfold addS
 rw [ho]
 simp only
 rw [if_pos h]
 apply List.ext_getElem?
 intro i
 by_cases e:i=m
 ·subst e
  rw [List.getElem?_append_right (by simp [hm]),List.getElem?_set_self (by omega)]
  simp [hm]
 ·rw [List.getElem?_set_ne (Ne.symm e)]
  by_cases hi:i<m
  ·rw [List.getElem?_append_left (by simp [hm];omega),List.getElem?_dropLast,if_pos (by omega)]
  ·rw [List.getElem?_eq_none (by simp [hm];omega),List.getElem?_eq_none (by omega)]
theorem addS_new {o:List (Int × Int)} {m:Nat} (hm:o.length=m+1) (x y:Int) (h:¬ (o[m]'(by omega)).2=x):addS o x y=o++[(x,y)]:=by
 have ho:o.getLast?=some (o[m]'(by omega)):=by
  have hl:o.length-1=m:=by omega
  have hm':m<o.length:=by omega
  rw [List.getLast?_eq_getElem?,hl,List.getElem?_eq_getElem hm']
 unfold addS
 rw [ho]
 simp only
 rw [if_neg h]
theorem merge_spec (a b:Option (List (Int × Int))) (q:FuncId) (f:Bool→Bool→Bool) (hm:E.mode q=0) (hq:∀ x y,pureCall E.P (L E) q [.bool x,.bool y]=some (.bool (f x y))) (ha:(colL a).length≤10000) (hb:(colL b).length≤10000) :
  pureCall E.P (L E) 163 [colX a,colX b,.func (.func q) ⟨[]⟩ ⟨[]⟩]=some (colV (keepS (fun y=>f (inB (colL a) y) (inB (colL b) y)) [] (sortU (ends (colL a++colL b))))):=by
 obtain ⟨k,hk,hcat⟩:=concat_cols a b ha hb
 have s3r:szOf E.P 3=some 1:=by kernel_rfl
 have st:settled depth (lst true [colX a,colX b])=true:=by cases a <;> cases b <;> rfl
 have hcl:(colL a++colL b).length≤20000:=by rw [List.length_append];omega
 rw [pureCall_fn F163 rfl]
 simp -implicitDefEqProofs [r163,p163,prep_new,newK_nil s3r,lit_cols,ret1 m207,hcat,st,Rec.o_len hk,-List.length_append]
 generalize hcc:colL a++colL b=cc at hk hcl ⊢
 rw [LL_for (γ:=List Int) cc [] (fun i c=>[(7,intR.sl 0 c),(19,.int .i64 i)]) (fun _ c=>[intR.row 3 c])
  (fun _ rest c=>(.exit 0,[(7,intR.sl 0 (c++ends rest)),(19,undef)],[intR.row 3 (c++ends rest)])) (fun i c=>c.length=2 * i) (by omega) rfl]
 ·rw [List.nil_append]
  have hel:(ends cc).length=2 * cc.length:=Rg.ends_len cc
  have so:=sortInts (h:=[intR.row 3 (ends cc)]) (b:=0) (lo:=0) (d:=ends cc) rfl (Nat.le_refl _) (by omega)
  obtain ⟨r,co,hr⟩:=compInts (h:=[intR.row 3 (sortI (ends cc))]) (b:=0) (lo:=0) (d:=sortI (ends cc)) rfl (Nat.le_refl _) (by rw [sortI_len];omega)
  have hsl:(sortI (ends cc)).length=(ends cc).length:=sortI_len _
  rw [Rg.comp_sort] at co hr
  have e1:intR.sl 0 (sortI (ends cc))=intR.sl 0 (ends cc):=by unfold Rec.sl;rw [hsl]
  rw [e1] at co
  simp only [List.set_cons_zero] at so co
  simp -implicitDefEqProofs [k163_3,ret2 (E:=E) (f:=172) rfl,ret2 (E:=E) (f:=173) rfl,so,co,prep_new,newK_nil s59]
  rw [hsl] at hr ⊢
  generalize hys:sortU (ends cc)=ys at hr ⊢
  generalize (ends cc).length=n at hr hel ⊢
  have hyn:ys.length≤40000:=by rw [List.length_append] at hr;omega
  generalize hkf:(fun y=>f (inB (colL a) y) (inB (colL b) y))=kf
  have hkf':∀ y,f (inB (colL a) y) (inB (colL b) y)=kf y:=fun y=>by rw [← hkf]
  rw [LL_rec (α:=Nat × List (Int × Int)) (1,[]) (fun c=>[(10,spanR.sl 1 c.2),(11,.int .i64 c.1)]) (fun c=>[intR.row 3 (ys++r),spanR.row 234 c.2])
   (fun c=>(.exit 2,[(10,spanR.sl 1 (keepS kf c.2 (ys.drop (c.1-1)))),(11,undef)],[intR.row 3 (ys++r),spanR.row 234 (keepS kf c.2 (ys.drop (c.1-1)))])) (fun c=>1≤c.1∧c.1≤ys.length+1∧c.2.length≤c.1) (fun c=>ys.length+1-c.1)]
  ·have rr:=Rec.reifyR_row (R:=spanR) (P:=E.P) (h:=[intR.row 3 (ys++r),spanR.row 234 (keepS kf [] ys)]) (b:=1) (t:=234) (l:=keepS kf [] ys) rfl s59 a59
   simp -implicitDefEqProofs [k163_11,rr,colV]
  ·exact ⟨Nat.le_refl _,by simp,by simp⟩
  ·simp -implicitDefEqProofs [k163_11,Rec.sl_nil]
  ·rfl
  ·intro nx c hc ih
   obtain ⟨i,o⟩:=c
   obtain ⟨h1,h2,h3⟩:=hc
   simp only at h1 h2 h3
   by_cases hi:i<ys.length
   ·obtain ⟨m,rfl⟩:∃ m,i=m+1:=⟨i-1,by omega⟩
    have hm0:m<ys.length:=by omega
    have hd:ys.drop (m+1-1)=ys[m] :: ys[m+1] :: ys.drop (m+2):=by
     rw [Nat.add_sub_cancel,List.drop_eq_getElem_cons hm0,List.drop_eq_getElem_cons hi]
    have hd2:ys.drop (m+1)=ys[m+1] :: ys.drop (m+2):=List.drop_eq_getElem_cons hi
    have ek:keepS kf o (ys[m] :: ys[m+1] :: ys.drop (m+2))=keepS kf (if kf ys[m] then addS o ys[m] ys[m+1] else o) (ys[m+1] :: ys.drop (m+2)):=rfl
    have w1:IntKind.i64.wrap (m:Int)=m:=wrap64 (by omega) (by omega)
    have w2:IntKind.i64.wrap ((m:Int)+1+1)=(m:Int)+2:=(wrap64 (by omega) (by omega)).trans (by omega)
    have hlt:(m:Int)+1<(ys.length:Int):=by omega
    have px:=pre_index (t:=3) (g:=some false) (b:=0) (n:=n) (k:=.i64) hm0
    have px1:=pre_index (t:=3) (g:=some false) (b:=0) (n:=n) (k:=.i64) hi
    have pl:=pre_load (h:=[intR.row 3 (ys++r),spanR.row 234 o]) (b:=0) (n:=n) (sz:=some 1) rfl hr hm0
    have pl1:=pre_load (h:=[intR.row 3 (ys++r),spanR.row 234 o]) (b:=0) (n:=n) (sz:=some 1) rfl hr hi
    have insa:=inside_spec a ys[m] (by omega)
    have insb:=inside_spec b ys[m] (by omega)
    have ap:=app_span (h:=[intR.row 3 (ys++r),spanR.row 234 o]) (b:=1) (c:=o) ys[m] ys[m+1] rfl (by omega)
    have ih:=fun o'=>ih (m+2,o')
    rw [hd,ek,← hd2]
    push_cast at px1
    cases hkv:kf ys[m]
    ·have ih:=ih o (by show ys.length+1-(m+2)<ys.length+1-(m+1);omega) ⟨by show 1≤m+2;omega,by show m+2≤ys.length+1;omega,by show o.length≤m+2;omega⟩
     simp -implicitDefEqProofs [k163_11] at ih
     simp -implicitDefEqProofs [r163_11,k163_11,hlt,pre_len,w1,w2,px,pl,ret0 m208,colX_reify,insa,insb,ret0 hm,hq,hkf',hkv,trim_le]
     exact ih
    ·rw [if_pos rfl]
     have ih2:=fun o' (hl:o'.length≤m+2)=>ih o' (by show ys.length+1-(m+2)<ys.length+1-(m+1);omega) ⟨by show 1≤m+2;omega,by show m+2≤ys.length+1;omega,hl⟩
     by_cases h0:o=[]
     ·subst h0
      have ih:=ih2 [(ys[m],ys[m+1])] (by show 1≤m+2;omega)
      have e:addS [] ys[m] ys[m+1]=[(ys[m],ys[m+1])]:=rfl
      rw [List.nil_append] at ap
      rw [e]
      simp -implicitDefEqProofs [k163_11] at ih
      simp -implicitDefEqProofs [r163_11,k163_11,hlt,pre_len,w1,w2,px,pl,px1,pl1,ret0 m208,colX_reify,insa,insb,ret0 hm,hq,hkf',hkv,Rec.sl_len,b2_all,lit_span,ap,trim_le]
      exact ih
     ·obtain ⟨t,ht⟩:∃ t,o.length=t+1:=⟨o.length-1,by have:=List.length_pos_iff.2 h0;omega⟩
      have ht':t<o.length:=by omega
      have w3:IntKind.i64.wrap ((o.length:Int)-1)=(t:Int):=(wrap64 (by omega) (by omega)).trans (by omega)
      have hpos:0<o.length:=by omega
      have ixo:=Rec.index_row (R:=spanR) (h0:=2) (t:=234) (g:=some true) (b:=1) (l:=o) (i:=t) (k:=.i64) rfl ht'
      have fdo:=Rec.field_row (R:=spanR) (b:=1) (n:=0) (f:=1) (l:=o) (i:=t) (k:=⟨some true,some 2⟩) (g:=some false)
      have ldo:=Rec.load_cell (R:=spanR) (h:=[intR.row 3 (ys++r),spanR.row 234 o]) (b:=1) (j:=1) (t:=234) (l:=o) (i:=t) (sz:=some 1) rfl ht' (by decide)
      have e1:(spanR.enc o[t])[1]?=some (.int .i64 o[t].2):=rfl
      simp only [e1] at ldo
      have sto:=Rec.store_cell (R:=spanR) (h:=[intR.row 3 (ys++r),spanR.row 234 o]) (b:=1) (j:=1) (lo:=0) (t:=234) (l:=o) (i:=t) (v:=.int .i64 ys[m+1]) (a:=(o[t].1,ys[m+1])) rfl rfl (Nat.zero_le _) ht' (by decide) rfl
      by_cases hs:o[t].2=ys[m]
      ·rw [addS_set ht _ _ hs]
       have ih:=ih2 (o.set t (o[t].1,ys[m+1])) (by simp;omega)
       have el:spanR.sl 1 (o.set t (o[t].1,ys[m+1]))=spanR.sl 1 o:=sl_eq (by simp)
       simp -implicitDefEqProofs [k163_11,el] at ih
       simp -implicitDefEqProofs [r163_11,k163_11,hlt,pre_len,w1,w2,px,pl,px1,pl1,ret0 m208,colX_reify,insa,insb,ret0 hm,hq,hkf',hkv,Rec.sl_len,hpos,w3,ixo,fdo,ldo,sto,hs,trim_le]
       exact ih
      ·rw [addS_new ht _ _ hs]
       have ih:=ih2 (o++[(ys[m],ys[m+1])]) (by simp;omega)
       simp -implicitDefEqProofs [k163_11] at ih
       simp -implicitDefEqProofs [r163_11,k163_11,hlt,pre_len,w1,w2,px,pl,px1,pl1,ret0 m208,colX_reify,insa,insb,ret0 hm,hq,hkf',hkv,Rec.sl_len,hpos,w3,ixo,fdo,ldo,hs,b2_all,lit_span,ap,trim_le]
       exact ih
   ·have e:keepS kf o (ys.drop (i-1))=o:=by
     have hl:(ys.drop (i-1)).length≤1:=by rw [List.length_drop];omega
     match hd:ys.drop (i-1),hl with
     | [],_=>rfl
     | [z],_=>rfl
    rw [e]
    simp -implicitDefEqProofs [r163_11,k163_11,hi,pre_len,trim_le]
 ·simp -implicitDefEqProofs [k163_3,Rec.sl_nil]
 ·rfl
 ·intro nx i c hi _
  simp -implicitDefEqProofs [r163_3,k163_3,hi,trim_le,ends]
 ·intro nx i s rest c hi hv hd hw hc ih
  have ixi:=Rec.o_index (R:=spanR) (t:=234) (kk:=.i64) (s:=2) rfl hk hi
  rw [hv] at ixi
  have ap:=fun o=>app_two (h:=[intR.row 3 c,o]) (b:=0) (c:=c) s.1 s.2 rfl (by omega)
  have ih:=ih (c++[s.1,s.2]) (by simp;omega)
  rw [ends_cons,← List.append_assoc]
  simp -implicitDefEqProofs [k163_3,-List.append_assoc] at ih
  simp -implicitDefEqProofs [r163_3,k163_3,hi,ixi,span_val,lit_two,ap,hw,trim_cut,Rec.sl_bel,Rec.row_bel,Rec.o_bel,colX_bel,-List.append_assoc]
  exact ih
end Go.Proofs.YtplebjehcgcdeaaGreatDoor.Bm
namespace Go.Proofs.YtplebjehcgcdeaaGreatDoor.Rg
open Bm (inB inB_has atO colL pslab bs bs_ok)
def edgesX (l:List Rect):List Int:=sortU (l.flatMap fun r=>[r.x0,r.x1])
theorem edgesX_all (l:List Rect):EdgesX l (edgesX l):=fun r hr=>by
 unfold edgesX
 rw [sortU_mem,sortU_mem]
 exact ⟨List.mem_flatMap.2 ⟨r,hr,by simp⟩,List.mem_flatMap.2 ⟨r,hr,by simp⟩⟩
theorem EdgesX.mono {l m:List Rect} {xs:List Int} (h:EdgesX m xs) (hlm:∀ r∈l,r∈m):EdgesX l xs:=fun r hr=>h r (hlm r hr)
def stripsL (l:List Rect):List Slab:=stripL (colC l) (edgesX l)
def ofL (l:List Rect):List Rect:=outT (runsF (stripsL l))
theorem edgesX_len (l:List Rect):(edgesX l).length≤2 * l.length:=by
 have h:∀ (z:Int) (m:List Int),(insU z m).length≤m.length+1:=by
  intro z m
  induction m with
  | nil=>exact Nat.le_refl _
  | cons a m ih =>
   unfold insU
   split
   ·exact Nat.le_refl _
   ·split
    ·exact Nat.le_succ _
    ·exact Nat.succ_le_succ ih
 have k:∀ (m:List Int),(sortU m).length≤m.length:=by
  intro m
  induction m with
  | nil=>exact Nat.le_refl _
  | cons a m ih=>exact Nat.le_trans (h a _) (Nat.succ_le_succ ih)
 refine Nat.le_trans (k _) ?_
 induction l with
 | nil=>exact Nat.le_refl _
 | cons r l ih =>
  have e:((r :: l).flatMap fun r=>[r.x0,r.x1]).length=2+(l.flatMap fun r=>[r.x0,r.x1]).length:=by
   rw [List.flatMap_cons,List.length_append];rfl
  have e2:(r :: l).length=l.length+1:=rfl
  rw [e,e2];omega
theorem stripL_len (c:Int→List (Int × Int)):∀ (xs:List Int),(stripL c xs).length=xs.length-1
 | []=>rfl
 | [_]=>rfl
 | a :: b :: xs=>by
  show (stripL c (b :: xs)).length+1=_
  rw [stripL_len c (b :: xs)];simp
theorem stripL_map (c c':Int→List (Int × Int)) (g:Slab→List (Int × Int)):∀ (xs:List Int),(∀ s∈stripL c xs,g s=c' s.x0)→(stripL c xs).map (fun s=>(⟨s.x0,s.x1,g s⟩:Slab))=stripL c' xs
 | [],_=>rfl
 | [_],_=>rfl
 | a :: b :: xs,h=>by
  show (⟨a,b,g ⟨a,b,c a⟩⟩:Slab) :: (stripL c (b :: xs)).map _=⟨a,b,c' a⟩ :: stripL c' (b :: xs)
  rw [stripL_map c c' g (b :: xs) fun s hs=>h s (List.mem_cons_of_mem _ hs),h ⟨a,b,c a⟩ List.mem_cons_self]
theorem ofL_ok {l:List Rect} (hl:∀ r∈l,r.y0<r.y1):Form (ofL l)∧∀ x y,cell (ofL l) x y=cell l x y :=
 strips_form (cell_steps l) (sortU_asc _) (edgesX_all l) (colC l) (fun x=>(colC_ok hl x).1) fun x _ y=>(colC_ok hl x).2 y
theorem gapless_get:∀ {T:List Slab} {b:Int},gapless b T→∀ i (hi:i<T.length),b≤T[i].x0∧T[i].x0<T[i].x1∧Can T[i].col
 | [],_,_,i,hi=>by simp at hi
 | s :: T,b,h,0,_=>⟨Int.le_of_eq h.1.symm,h.2.1,h.2.2.1⟩
 | s :: T,b,h,i+1,hi=>by
  have hi':i<T.length:=by simpa using hi
  have:=gapless_get h.2.2.2 i hi'
  have h1:=h.1
  have h2:=h.2.1
  have h3:b≤T[i].x0:=by omega
  exact ⟨h3,this.2⟩
theorem gapless_two:∀ {T:List Slab} {b:Int},gapless b T→∀ i j (hj:j<T.length) (hij:i<j),(T[i]'(by omega)).x1≤T[j].x0
 | [],_,_,_,j,hj,_=>by simp at hj
 | s :: T,b,h,0,0,_,hij=>by omega
 | s :: T,b,h,0,j+1,hj,_=>(gapless_get h.2.2.2 j (by simpa using hj)).1
 | s :: T,b,h,i+1,0,_,hij=>by omega
 | s :: T,b,h,i+1,j+1,hj,hij=>gapless_two h.2.2.2 i j (by simpa using hj) (by omega)
theorem cellT_get {T:List Slab} {x y:Int}:cellT T x y=true↔∃ i,∃ hi:i<T.length,T[i].x0≤x∧x<T[i].x1∧hasS T[i].col y=true:=by
 unfold cellT
 rw [List.any_eq_true]
 constructor
 ·rintro ⟨s,hs,h⟩
  obtain ⟨i,hi,rfl⟩:=List.mem_iff_getElem.1 hs
  simp only [Bool.and_eq_true,decide_eq_true_eq] at h
  exact ⟨i,hi,h.1.1,h.1.2,h.2⟩
 ·rintro ⟨i,hi,h1,h2,h3⟩
  exact ⟨T[i],List.getElem_mem hi,by simp [h1,h2,h3]⟩
theorem pslab_get {T:List Slab} {x:Int} {k:Nat} (hk:k<T.length):pslab T x k=decide (T[k].x1≤x):=by
 unfold pslab;rw [List.getD_eq_getElem?_getD,List.getElem?_eq_getElem hk];rfl
theorem atO_ok {T:List Slab} {b:Int} (h:gapless b T) (x:Int):Can (colL (atO T x))∧∀ y,hasS (colL (atO T x)) y=cellT T x y:=by
 have ok:=bs_ok (p:=pslab T x) (n:=T.length) fun i j hij hj hp=>by
  rw [pslab_get hj,decide_eq_true_eq] at hp
  rw [pslab_get (by omega),decide_eq_true_eq]
  by_cases e:i=j
  ·subst e;exact hp
  ·have:=gapless_two h i j hj (by omega)
   have:=(gapless_get h j hj).2.1
   omega
 unfold atO
 generalize bs (pslab T x) 0 T.length=m at ok ⊢
 obtain ⟨hm,ok⟩:=ok
 have none:(∀ k (hk:k<T.length),¬ (T[k].x0≤x∧x<T[k].x1))→Can (colL none)∧∀ y,hasS (colL none) y=cellT T x y:=fun hn=>⟨trivial,fun y=>by
  show false=_
  symm
  rw [Bool.eq_false_iff]
  intro hc
  obtain ⟨i,hi,h1,h2,_⟩:=cellT_get.1 hc
  exact hn i hi ⟨h1,h2⟩⟩
 by_cases hlt:m<T.length
 ·rw [if_pos hlt,List.getD_eq_getElem?_getD,List.getElem?_eq_getElem hlt]
  show Can (colL (if T[m].x0≤x then _ else _))∧∀ y,hasS (colL (if T[m].x0≤x then _ else _)) y=_
  have hm1:=ok m hlt
  rw [pslab_get hlt,decide_eq_true_eq] at hm1
  by_cases hx:T[m].x0≤x
  ·rw [if_pos hx]
   refine ⟨(gapless_get h m hlt).2.2,fun y=>?_⟩
   show hasS T[m].col y=_
   rw [Bool.eq_iff_iff,cellT_get]
   refine ⟨fun hy=>⟨m,hlt,hx,by omega,hy⟩,?_⟩
   rintro ⟨i,hi,h1,h2,h3⟩
   have e:i=m:=by
    rcases Nat.lt_trichotomy i m with q | q | q
    ·have:=gapless_two h i m hlt q;omega
    ·exact q
    ·have:=gapless_two h m i hi q;omega
   subst e;exact h3
  ·rw [if_neg hx]
   refine none fun k hk hkx=>?_
   have hk1:=ok k hk
   rw [pslab_get hk,decide_eq_true_eq] at hk1
   by_cases e:m=k
   ·subst e;exact hx hkx.1
   ·have:=gapless_two h m k hk (by omega)
    have:=(gapless_get h m hlt).2.1
    omega
 ·rw [if_neg hlt]
  refine none fun k hk hkx=>?_
  have hk1:=ok k hk
  rw [pslab_get hk,decide_eq_true_eq] at hk1
  omega
theorem at_strips {l:List Rect} (hl:∀ r∈l,r.y0<r.y1) (x:Int):Can (colL (atO (stripsL l) x))∧∀ y,hasS (colL (atO (stripsL l) x)) y=cell l x y:=by
 obtain ⟨b,hg⟩:=stripL_gap (colC l) (fun x=>(colC_ok hl x).1) (edgesX l) (sortU_asc _)
 refine ⟨(atO_ok hg x).1,fun y=>?_⟩
 rw [show atO (stripsL l) x=atO (stripL (colC l) (edgesX l)) x from rfl,(atO_ok hg x).2]
 have hE:=edgesX_all l
 have hp:(edgesX l).Pairwise (· < ·):=sortU_asc _
 refine stripL_cell (colC l) (cell l) (edgesX l) hp (fun a b ⟨p,q,e⟩ x hx hxb y=>?_) (fun x hx y=>(cell_steps l).none x (fun r hr h=>?_) y) (fun x hx y=>(cell_steps l).none x (fun r hr h=>?_) y) x y
 ·rw [(colC_ok hl a).2]
  refine (cell_steps l).same x a (fun r hr=>?_) y
  have q0:=between hp e (hE r hr).1
  have q1:=between hp e (hE r hr).2
  omega
 ·have:=hx _ (hE r hr).1;omega
 ·have:=hx _ (hE r hr).2;omega
theorem hasS_const {c:List (Int × Int)} {y y':Int} (h:∀ s∈c,(s.1≤y↔s.1≤y')∧(y<s.2↔y'<s.2)):hasS c y=hasS c y':=any_ext fun s hs=>by
 obtain ⟨h1,h2⟩:=h s hs
 simp only [h1,h2]
theorem hasS_out {c:List (Int × Int)} {y:Int} (h:∀ s∈c,¬ (s.1≤y∧y<s.2)):hasS c y=false:=List.any_eq_false.2 fun s hs=>by
 have:=h s hs
 simp only [Bool.and_eq_true,decide_eq_true_eq]
 exact this
theorem ends_mem {c:List (Int × Int)} {s:Int × Int} (h:s∈c):s.1∈ends c∧s.2∈ends c:=⟨List.mem_flatMap.2 ⟨s,h,by simp⟩,List.mem_flatMap.2 ⟨s,h,by simp⟩⟩
def mergeC (f:Bool→Bool→Bool) (a b:List (Int × Int)):List (Int × Int):=keepS (fun y=>f (inB a y) (inB b y)) [] (sortU (ends (a++b)))
theorem mergeC_ok (f:Bool→Bool→Bool) (hf:f false false=false) {a b:List (Int × Int)} (ha:Can a) (hb:Can b):Can (mergeC f a b)∧∀ y,hasS (mergeC f a b) y=f (hasS a y) (hasS b y):=by
 unfold mergeC
 have hp:=sortU_asc (ends (a++b))
 have hm:∀ s,(s∈a∨s∈b)→s.1∈sortU (ends (a++b))∧s.2∈sortU (ends (a++b)):=fun s hs=>by
  rw [sortU_mem,sortU_mem]
  exact ends_mem (List.mem_append.2 hs)
 generalize sortU (ends (a++b))=ys at hp hm
 have ek:(fun y=>f (inB a y) (inB b y))=fun y=>f (hasS a y) (hasS b y):=funext fun y=>by rw [inB_has ha,inB_has hb]
 rw [ek]
 refine ⟨?_,fun y=>keepS_has _ (fun y=>f (hasS a y) (hasS b y)) ys hp (fun u v ⟨p,q,e⟩ y hy hyv=>?_) (fun y hy=>?_) (fun y hy=>?_) y⟩
 ·cases ys with
  | nil=>trivial
  | cons z ys=>exact (keepS_ok _ (z :: ys) [] z hp ⟨trivial,fun s hs=>by cases hs⟩ fun b hb=>by
    rcases List.mem_cons.1 hb with rfl | hb
    ·exact Int.le_refl _
    ·exact Int.le_of_lt ((List.pairwise_cons.1 hp).1 b hb)).1
 ·have key:∀ s,(s∈a∨s∈b)→(s.1≤y↔s.1≤u)∧(y<s.2↔u<s.2):=fun s hs=>by
   have q0:=between hp e (hm s hs).1
   have q1:=between hp e (hm s hs).2
   omega
  show f (hasS a y) (hasS b y)=f (hasS a u) (hasS b u)
  rw [hasS_const (fun s hs=>key s (.inl hs)),hasS_const (fun s hs=>key s (.inr hs))]
 ·show f (hasS a y) (hasS b y)=false
  rw [hasS_out (c:=a) fun s hs h=>by have:=hy _ (hm s (.inl hs)).1;omega,hasS_out (c:=b) fun s hs h=>by have:=hy _ (hm s (.inr hs)).1;omega,hf]
 ·show f (hasS a y) (hasS b y)=false
  rw [hasS_out (c:=a) fun s hs h=>by have:=hy _ (hm s (.inl hs)).2;omega,hasS_out (c:=b) fun s hs h=>by have:=hy _ (hm s (.inr hs)).2;omega,hf]
def opC (f:Bool→Bool→Bool) (a b:List Rect) (x:Int):List (Int × Int):=mergeC f (colL (atO (stripsL a) x)) (colL (atO (stripsL b) x))
def opL (f:Bool→Bool→Bool) (a b:List Rect):List Rect:=outT (runsF (stripL (opC f a b) (edgesX (a++b))))
theorem opL_ok (f:Bool→Bool→Bool) (hf:f false false=false) {a b:List Rect} (ha:∀ r∈a,r.y0<r.y1) (hb:∀ r∈b,r.y0<r.y1):Form (opL f a b)∧∀ x y,cell (opL f a b) x y=f (cell a x y) (cell b x y):=by
 have h1:Steps (a++b) (cell a):=(cell_steps a).mono fun r hr=>List.mem_append_left _ hr
 have h2:Steps (a++b) (cell b):=(cell_steps b).mono fun r hr=>List.mem_append_right _ hr
 have hc:=fun x=>mergeC_ok f hf (at_strips ha x).1 (at_strips hb x).1
 refine strips_form (h1.op h2 f hf) (sortU_asc _) (edgesX_all _) (opC f a b) (fun x=>(hc x).1) fun x _ y=>?_
 rw [show hasS (opC f a b x) y=_ from (hc x).2 y,(at_strips ha x).2,(at_strips hb x).2]
end Go.Proofs.YtplebjehcgcdeaaGreatDoor.Rg
