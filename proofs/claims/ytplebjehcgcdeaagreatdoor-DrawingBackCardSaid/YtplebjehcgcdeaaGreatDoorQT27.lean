/-
 Chapter 19: drawings as the laws' arguments. Conditions: none.
-/
import Derived.Test.YtplebjehcgcdeaaGreatDoorQT25
import Derived.Test.YtplebjehcgcdeaaGreatDoorQT26
import Derived.Test.YtplebjehcgcdeaaGreatDoorQT16
namespace Go.Proofs.YtplebjehcgcdeaaGreatDoor.Bm
open Go Go.RowKit
open Dw (Vol Ent Phs Drw)
def namesF (l:List Ent):Bool:=(l.take 50).all fun e=>decide (e.1.length≤30)
def fewR:List Phs→Nat × Nat→Bool × Nat × Nat
 | [],c=>(true,c)
 | p :: r,c=>if namesF p.gives then fewR r (c.1+p.vols.length,c.2+p.gives.length) else (false,c.1+p.vols.length,c.2+p.gives.length)
def fewB (d:Drw):Bool:=decide (d.phs.length≤10) && (fewR d.phs (0,0)).1 && decide ((fewR d.phs (0,0)).2.1≤45) && decide ((fewR d.phs (0,0)).2.2≤40)
def Held (d:Drw):Prop:=d.phs.length≤281474976710656∧∀ p∈d.phs,p.vols.length≤281474976710656∧p.gives.length≤281474976710656
theorem fewR_le:∀ (l:List Phs) (c:Nat × Nat),(∀ p∈l,p.vols.length≤281474976710656∧p.gives.length≤281474976710656)→(fewR l c).2.1≤c.1+l.length * 281474976710656∧(fewR l c).2.2≤c.2+l.length * 281474976710656
 | [],c,_=>⟨by show c.1≤_;omega,by show c.2≤_;omega⟩
 | p :: r,c,h=>by
  obtain ⟨h1,h2⟩:=h p (List.mem_cons_self ..)
  have ih:=fewR_le r (c.1+p.vols.length,c.2+p.gives.length) fun q hq=>h q (List.mem_cons_of_mem _ hq)
  simp only at ih
  rw [List.length_cons]
  unfold fewR
  split
  ·omega
  ·simp only;omega
theorem few_pure (k:Option Bool) (d:Drw) (hk:Rec.Ok k d.phs) (hh:Held d):pureCall E.P (L E) 12 [drV k d]=some (.bool (fewB d)):=by
 obtain ⟨hp,hq⟩:=hh
 unfold fewB
 obtain ⟨lot,phs⟩:=d
 simp only at hk hp hq ⊢
 have ll:∀ h,lenT .sl h (phR.o k phs)=some (.int .i64 phs.length):=fun h=>Rec.o_len hk
 have ix:=fun (i:Nat) (hi:i<phs.length)=>Rec.o_index (R:=phR) (s:=2) (t:=tP) (kk:=.i64) rfl hk hi
 have bP:∀ d n,below (d+1) n (phR.o k phs)=true:=fun d n=>Rec.o_bel
 unfold drV at *
 simp only at *
 generalize phR.o k phs=VP at *
 have bD:∀ n,below 8 n (.agg ⟨[.int .i64 lot,VP]⟩)=true:=fun n=>by show ([_,_]:List Value).all (below 7 n)=true;simp only [List.all_cons,List.all_nil,bP,bel_int,Bool.and_self]
 obtain ⟨A0,hA⟩:∃ A,AObj.cells tD [.int .i64 lot,VP] 0=A:=⟨_,rfl⟩
 have bl:∀ n,belowO n A0=true:=fun n=>by rw [← hA];show ([_,_]:List Value).all (below 8 n)=true;simp only [List.all_cons,List.all_nil,bP,bel_int,Bool.and_self]
 have ld:∀ X,loadT ⟨some false,some 1⟩ (A0 :: X) (.pointer (some ⟨0,1,none⟩))=some VP:=fun X=>by rw [← hA];exact obj_load (j:=1) (t:=tD) (c:=[.int .i64 lot,VP]) rfl rfl
 rw [pureCall_fn F12 rfl]
 by_cases c1:phs.length≤10
 case neg =>
  have c1':10<(phs.length:Int):=by omega
  simp -implicitDefEqProofs [r12,p12,hA,ld,ll,c1,c1']
 have c1':¬ 10<(phs.length:Int):=by omega
 have hfl:=fewR_le phs (0,0) hq
 simp only [Nat.zero_add] at hfl
 simp -implicitDefEqProofs [r12,p12,hA,ld,ll,c1,c1']
 rw [LL_for (γ:=Nat × Nat) phs (0,0) (fun i c=>[(3,.int .i64 c.1),(4,.int .i64 c.2),(5,.int .i64 i)]) (fun _ _=>[A0])
  (fun i rest c=>if (fewR rest c).1 then (.exit 0,[(3,.int .i64 (fewR rest c).2.1),(4,.int .i64 (fewR rest c).2.2),(5,undef)],[A0]) else (.ret,[(2,.bool false),(3,.int .i64 (fewR rest c).2.1),(4,.int .i64 (fewR rest c).2.2),(5,undef)],[A0]))
  (fun i c=>c.1≤i * 281474976710656∧c.2≤i * 281474976710656) (by omega) ⟨by simp,by simp⟩]
 ·cases hf:(fewR phs (0,0)).1
  ·simp -implicitDefEqProofs [k12_6]
  ·generalize (fewR phs (0,0)).2=nm at *
   obtain ⟨n,m⟩:=nm
   by_cases q1:n≤45
   ·have q1':(n:Int)≤45:=by omega
    by_cases q2:m≤40
    ·have q2':(m:Int)≤40:=by omega
     simp -implicitDefEqProofs [k12_6,q1,q1',q2,q2']
    ·have q2':¬ (m:Int)≤40:=by omega
     simp -implicitDefEqProofs [k12_6,q1,q1',q2,q2']
   ·have q1':¬ (n:Int)≤45:=by omega
    simp -implicitDefEqProofs [k12_6,q1,q1']
 ·simp -implicitDefEqProofs [k12_6]
 ·rfl
 ·intro nx i c hi _
  have e0:fewR [] c=(true,c):=rfl
  simp -implicitDefEqProofs [r12_6,k12_6,hi,ld,ll,trim_le,e0]
 ·intro nx i p rest c hi hv hd hw hI ih
  have xi:=ix i hi
  rw [hv,ph_val] at xi
  obtain ⟨hv1,hg1⟩:=hq p (by rw [← hv];exact List.getElem_mem hi)
  obtain ⟨n,m⟩:=c
  obtain ⟨i1,i2⟩:n≤i * 281474976710656∧m≤i * 281474976710656:=hI
  have hi10:i<10:=by omega
  obtain ⟨qv,qg⟩:=p
  simp only at xi hv1 hg1
  have ih:=ih (n+qv.length,m+qg.length) ⟨by show n+qv.length≤(i+1) * _;omega,by show m+qg.length≤(i+1) * _;omega⟩
  have lg:∀ h,lenT .sl h (lst false (entR.vals qg))=some (.int .i64 qg.length):=fun h=>Rec.tree_len
  have lv:∀ h,lenT .sl h (lst false (volR.vals qv))=some (.int .i64 qv.length):=fun h=>Rec.tree_len
  have ig:=fun (j:Nat) (hj:j<qg.length)=>Rec.index_tree (R:=entR) (h0:=2) (x:=false) (t:=tE) (k:=.i64) rfl hj
  have bQ:∀ d n,below (d+1) n (lst false (entR.vals qg))=true:=fun d n=>rfl
  have bW:∀ d n,below (d+1) n (lst false (volR.vals qv))=true:=fun d n=>rfl
  have w1:IntKind.i64.wrap ((n:Int)+qv.length)=((n+qv.length:Nat):Int):=by rw [wrap64 (by omega) (by omega)];exact (Int.natCast_add n qv.length).symm
  have w2:IntKind.i64.wrap ((m:Int)+qg.length)=((m+qg.length:Nat):Int):=by rw [wrap64 (by omega) (by omega)];exact (Int.natCast_add m qg.length).symm
  have e1:fewR (⟨qv,qg⟩ :: rest) (n,m)=if namesF qg then fewR rest (n+qv.length,m+qg.length) else (false,n+qv.length,m+qg.length):=rfl
  have f0:∀ u v:Value,fitsTT ⟨some true,some 2⟩ (.agg ⟨[u,v]⟩)=true:=fun u v=>rfl
  have fW:fitsTT ⟨some false,some 1⟩ (lst false (volR.vals qv))=true:=rfl
  have fG:fitsTT ⟨some false,some 1⟩ (lst false (entR.vals qg))=true:=rfl
  rw [e1]
  generalize lst false (volR.vals qv)=VW at *
  generalize lst false (entR.vals qg)=VG at *
  generalize n+qv.length=n2 at *
  generalize m+qg.length=m2 at *
  simp -implicitDefEqProofs [k12_6] at ih
  simp -implicitDefEqProofs [r12_6,k12_6,hi,ld,ll,xi,f0,fW,fG,lv,lg,w1,w2]
  have hll:(qg.take 50).length≤50∧(qg.take 50).length≤qg.length:=by rw [List.length_take];omega
  rw [LL_for (γ:=Unit) (qg.take 50) () (fun j _=>[(6,.int .i64 (j:Int))]) (fun _ _=>[A0])
   (fun _ rest _=>if rest.all (fun e=>decide (e.1.length≤30)) then (.exit 2,[(6,undef)],[A0]) else (.ret,[(2,.bool false),(6,undef)],[A0])) (fun _ _=>True) (by omega) trivial]
  ·cases hb:(qg.take 50).all (fun e=>decide (e.1.length≤30))
   ·have hn:namesF qg=false:=hb
    rw [hn,if_neg (by decide)]
    simp -implicitDefEqProofs [k12_11,trim_le]
   ·have hn:namesF qg=true:=hb
    rw [hn,if_pos rfl]
    simp -implicitDefEqProofs [k12_11,hw,trim_le]
    exact ih
  ·simp -implicitDefEqProofs [k12_11]
  ·rfl
  ·intro ny j c hj _
   have hc:(((j:Nat):Int)<(qg.length:Int)∧((j:Nat):Int)<50)→False:=fun ⟨h1,h2⟩=>by rw [List.length_take] at hj;omega
   by_cases hj1:((j:Nat):Int)<(qg.length:Int)
   ·have hj2:¬ ((j:Nat):Int)<50:=fun h=>hc ⟨hj1,h⟩
    simp -implicitDefEqProofs [r12_11,k12_11,ld,xi,f0,fG,lg,hj1,hj2,trim_le]
   ·simp -implicitDefEqProofs [r12_11,k12_11,ld,xi,f0,fG,lg,hj1,trim_le]
  ·intro ny j e rs c hj hve hde hwe _ ihe
   have ihe:=ihe () trivial
   have hj0:j<qg.length:=by omega
   have hj1:((j:Nat):Int)<(qg.length:Int):=by omega
   have hj2:((j:Nat):Int)<50:=by omega
   have xg:=ig j hj0
   rw [List.getElem_take] at hve
   rw [hve] at xg
   obtain ⟨nm,z⟩:=e
   change _=some (cptr (.agg ⟨[.string ⟨⟨nm⟩⟩,.int .i64 z]⟩)) at xg
   have fte:∀ u v:Value,fitsTT ⟨some true,some 2⟩ (.agg ⟨[u,v]⟩)=true:=fun u v=>rfl
   have ls:∀ h,lenT .str h (.string ⟨⟨nm⟩⟩)=some (.int .i64 nm.length):=fun h=>rfl
   rw [List.all_cons]
   generalize hRA:rs.all (fun e=>decide (e.1.length≤30))=RA at *
   by_cases h30:nm.length≤30
   ·have h30':¬ 30<(nm.length:Int):=by omega
    simp -implicitDefEqProofs [k12_11] at ihe
    simp -implicitDefEqProofs [r12_11,k12_11,ld,xi,f0,fG,lg,hj1,hj2,xg,ls,h30,h30',hwe,trim_le]
    exact ihe
   ·have h30':30<(nm.length:Int):=by omega
    simp -implicitDefEqProofs [r12_11,k12_11,ld,xi,f0,fG,lg,hj1,hj2,xg,ls,h30,h30',trim_le]
end Go.Proofs.YtplebjehcgcdeaaGreatDoor.Bm
namespace Go.Proofs.YtplebjehcgcdeaaGreatDoor.Bm
open Go Go.RowKit
open Dw (Vol Ent Phs Drw readF formB)
theorem fewR_true:∀ (l:List Phs) (c:Nat × Nat),(fewR l c).1=true→(fewR l c).2.1=c.1+(l.flatMap Phs.vols).length∧(∀ p∈l,p.gives.length≤(fewR l c).2.2∧namesF p.gives=true)∧c.2≤(fewR l c).2.2
 | [],c,_=>⟨rfl,fun p hp=>(by cases hp),Nat.le_refl _⟩
 | p :: r,c,h=>by
  unfold fewR at h ⊢
  split at h
  ·rename_i hn
   rw [if_pos hn]
   obtain ⟨h1,h2,h3⟩:=fewR_true r (c.1+p.vols.length,c.2+p.gives.length) h
   simp only at h1 h3
   refine ⟨by rw [h1,List.flatMap_cons,List.length_append];omega,fun q hq=>?_,by omega⟩
   rcases List.mem_cons.1 hq with rfl | hq
   ·exact ⟨by omega,hn⟩
   ·exact h2 q hq
  ·cases h
structure Few (d:Drw):Prop where
 phs:d.phs.length≤10
 vols:d.all.length≤45
 gives:∀ p∈d.phs,p.gives.length≤40∧∀ e∈p.gives,e.1.length≤30
theorem few_of {d:Drw} (h:fewB d=true):Few d:=by
 unfold fewB at h
 simp only [Bool.and_eq_true,decide_eq_true_eq] at h
 obtain ⟨⟨⟨h1,h2⟩,h3⟩,h4⟩:=h
 obtain ⟨k1,k2,_⟩:=fewR_true _ _ h2
 refine ⟨h1,?_,fun p hp=>?_⟩
 ·unfold Dw.Drw.all
  simp only [Nat.zero_add] at k1
  omega
 ·obtain ⟨a1,a2⟩:=k2 p hp
  refine ⟨by omega,fun e he=>?_⟩
  unfold namesF at a2
  rw [List.take_of_length_le (by omega)] at a2
  exact of_decide_eq_true (List.all_eq_true.1 a2 e he)
theorem Few.lens {d:Drw} (h:Few d):∀ p∈d.phs,Lens p:=fun p hp=>by
 have h1:=Dw.mem_len hp
 have h2:=(h.gives p hp).1
 have h3:=h.vols
 exact ⟨by omega,by omega⟩
theorem Few.names {d:Drw} (h:Few d):∀ p∈d.phs,p.gives.length≤1000000∧∀ e∈p.gives,e.1.length≤1000000:=fun p hp=>by
 obtain ⟨h1,h2⟩:=h.gives p hp
 exact ⟨by omega,fun e he=>by have:=h2 e he;omega⟩
theorem dr_reify (d:Drw) (h:Heap):reify E.P 8 h (.agg #[.int .i64 d.lot,phR.o (some false) d.phs])=some (.agg #[.int .i64 d.lot,phR.o (some false) d.phs]):=by
 have hs:([.int .i64 d.lot,phR.o (some false) d.phs]:List Value).all (settled 8)=true:=by
  simp only [List.all_cons,List.all_nil,Bool.and_true,Bool.and_eq_true]
  exact ⟨rfl,Rec.o_set⟩
 show reify E.P 8 h (.agg ⟨[.int .i64 d.lot,phR.o (some false) d.phs]⟩)=_
 rw [reify_agg,reifyC_set hs];rfl
theorem read_v (l:List UInt8) (hl:l.length≤100000) (d:Drw) (h:readF formB l=some d):pureCall E.P (L E) 31 [.string ⟨⟨l⟩⟩]=some (.tuple #[.agg #[.int .i64 d.lot,phR.o (some false) d.phs],.int .i64 0]):=by
 have rd:=read_pure l hl
 rw [h] at rd
 exact rd
theorem read_n (l:List UInt8) (hl:l.length≤100000) (h:readF formB l=none):pureCall E.P (L E) 31 [.string ⟨⟨l⟩⟩]=some (.tuple #[.agg #[.int .i64 0,.slice none 0 0],.int .i64 2]):=by
 have rd:=read_pure l hl
 rw [h] at rd
 exact rd
theorem back_law (d o:Drw) (hd:Held d) (ho:Held o):∃ h',L E 5 [drV (some false) d,drV (some false) o] [] 0=some (.bool true,h'):=by
 have sm:=small_pure
 have fd:pureCall E.P (L E) 12 [.agg #[.int .i64 d.lot,phR.o (some false) d.phs]]=some (.bool (fewB d)):=few_pure (some false) d Rec.ok_some hd
 have fo:pureCall E.P (L E) 12 [.agg #[.int .i64 o.lot,phR.o (some false) o.phs]]=some (.bool (fewB o)):=few_pure (some false) o Rec.ok_some ho
 have rzd:=dr_reify d
 have rzo:=dr_reify o
 have o1:one (phR.o (some false) d.phs)=true:=Rec.o_one
 have o2:one (phR.o (some false) o.phs)=true:=Rec.o_one
 have sS:∀ z,settled depth (.string z)=true:=fun z=>rfl
 rw [L_fn F5 rfl]
 unfold drV
 have bx:∀ (X:Heap) (z:Int) (l:List Phs),aBox X tD (.agg ⟨[.int .i64 z,phR.o (some false) l]⟩)=some (.pointer (some ⟨X.length,0,none⟩),X++[.cells tD [.int .i64 z,phR.o (some false) l] 0]):=fun X z l=>rfl
 cases hfd:fewB d with
 | false =>
  rw [hfd] at fd
  generalize phR.o (some false) d.phs=D at *
  generalize phR.o (some false) o.phs=O at *
  refine ⟨[.cells tD [.int .i64 d.lot,D] 0,.cells tD [.int .i64 o.lot,O] 0],?_⟩
  simp -implicitDefEqProofs [r5,p5,ret0 m11,sm,ret0 m12,rzd,fd,-reify_agg]
 | true =>
 cases hfo:fewB o with
 | false =>
  rw [hfd] at fd
  rw [hfo] at fo
  generalize phR.o (some false) d.phs=D at *
  generalize phR.o (some false) o.phs=O at *
  refine ⟨[.cells tD [.int .i64 d.lot,D] 0,.cells tD [.int .i64 o.lot,O] 0],?_⟩
  simp -implicitDefEqProofs [r5,p5,ret0 m11,sm,ret0 m12,rzd,rzo,fd,fo,-reify_agg]
 | true =>
  rw [hfd] at fd
  rw [hfo] at fo
  have kd:=few_of hfd
  have ko:=few_of hfo
  have bd:=bytes_pure (some false) d Rec.ok_some (by have:=kd.phs;omega) (by have:=kd.vols;omega) kd.names
  have bo:=bytes_pure (some false) o Rec.ok_some (by have:=ko.phs;omega) (by have:=ko.vols;omega) ko.names
  have fod:=form_pure (some false) d Rec.ok_some (by have:=kd.phs;omega) (by have:=kd.vols;omega) kd.names
  unfold resB at bd bo
  cases hF:formB d with
  | false =>
   rw [hF] at fod
   rw [hF,if_neg (by decide)] at bd
   have bd:pureCall E.P (L E) 13 [.agg #[.int .i64 d.lot,phR.o (some false) d.phs]]=some (.tuple #[.string ⟨⟨[]⟩⟩,.int .i64 1]):=bd
   have fod:pureCall E.P (L E) 21 [.agg #[.int .i64 d.lot,phR.o (some false) d.phs]]=some (.bool false):=fod
   obtain ⟨so,eo,hbo⟩:∃ so eo,pureCall E.P (L E) 13 [.agg #[.int .i64 o.lot,phR.o (some false) o.phs]]=some (.tuple #[.string ⟨⟨so⟩⟩,.int .i64 eo]):=by
    cases hFo:formB o with
    | false=>rw [hFo,if_neg (by decide)] at bo;exact ⟨_,_,bo⟩
    | true=>rw [hFo,if_pos rfl] at bo;exact ⟨_,_,bo⟩
   clear bo
   generalize phR.o (some false) d.phs=D at *
   generalize phR.o (some false) o.phs=O at *
   refine ⟨[.cells tD [.int .i64 d.lot,D] 0,.cells tD [.int .i64 o.lot,O] 0],?_⟩
   simp -implicitDefEqProofs [r5,p5,ret0 m11,sm,ret0 m12,rzd,rzo,fd,fo,ret0 m13,bd,hbo,ret0 m21,fod,-reify_agg]
  | true =>
   rw [hF] at fod
   rw [hF,if_pos rfl] at bd
   have bd:pureCall E.P (L E) 13 [.agg #[.int .i64 d.lot,phR.o (some false) d.phs]]=some (.tuple #[.string ⟨⟨Dw.enc d⟩⟩,.int .i64 0]):=bd
   have fod:pureCall E.P (L E) 21 [.agg #[.int .i64 d.lot,phR.o (some false) d.phs]]=some (.bool true):=fod
   have hfit:=Dw.form_fit hF
   have hel:=enc_len hF
   have r1:=read_v _ (by omega) _ (Dw.read_enc hfit hF)
   have r2:=read_n (Dw.enc d++[48,59]) (by rw [List.length_append];show _+2≤_;omega) (Dw.read_more hfit (by decide))
   have hne:Dw.enc d≠[]:=fun h0=>by
    have:=Dw.read_enc (form:=formB) hfit hF
    rw [h0,ex_readN] at this
    cases this
   have hpos:0<(Dw.enc d).length:=List.length_pos_iff.2 hne
   have hlt:(Dw.enc d).length / 2<(Dw.enc d).length:=by omega
   have r3:=read_n ((Dw.enc d).take ((Dw.enc d).length / 2)) (by rw [List.length_take];omega) (Dw.enc_prefix hfit (fun x hx=>Dw.form_fit hx) (r:=(Dw.enc d).drop ((Dw.enc d).length / 2)) (by
    intro h0
    have:=congrArg List.length h0
    rw [List.length_drop] at this
    simp at this
    omega) (List.take_append_drop _ _).symm)
   have s1:=same_pure (k:=some false) (m:=some false) d d Rec.ok_some Rec.ok_some (by have:=kd.phs;omega) (by have:=kd.phs;omega) kd.lens kd.lens
   rw [decide_eq_true rfl] at s1
   have s1:pureCall E.P (L E) 30 [.agg #[.int .i64 d.lot,phR.o (some false) d.phs],.agg #[.int .i64 d.lot,phR.o (some false) d.phs]]=some (.bool true):=s1
   have s2:=same_pure (k:=some false) (m:=some false) d o Rec.ok_some Rec.ok_some (by have:=kd.phs;omega) (by have:=ko.phs;omega) kd.lens ko.lens
   have s2:pureCall E.P (L E) 30 [.agg #[.int .i64 d.lot,phR.o (some false) d.phs],.agg #[.int .i64 o.lot,phR.o (some false) o.phs]]=some (.bool (decide (d=o))):=s2
   have le:∀ h,lenT .str h (.string ⟨⟨Dw.enc d⟩⟩)=some (.int .i64 (Dw.enc d).length):=fun h=>rfl
   have ta:∀ h,sliceT .str h (.string ⟨⟨Dw.enc d⟩⟩) none (some (.int .i64 (((Dw.enc d).length / 2:Nat):Int))) none=some (.string ⟨⟨(Dw.enc d).take ((Dw.enc d).length / 2)⟩⟩):=fun h=>sv_take (by omega)
   have ad:∀ t,aBin E.P .add t (.string ⟨⟨Dw.enc d⟩⟩) (.string ⟨⟨[48,59]⟩⟩)=some (.string ⟨⟨Dw.enc d++[48,59]⟩⟩):=fun t=>sv_add (by show _+2≤_;omega)
   have qo:aBin E.P .quo 3 (.int .i64 ((Dw.enc d).length:Int)) (.int .i64 2)=some (.int .i64 (((Dw.enc d).length / 2:Nat):Int)):=by rw [bin_quo (by decide),show (((Dw.enc d).length:Nat):Int).tdiv 2=(((Dw.enc d).length / 2:Nat):Int) from rfl,wrap64 (by omega) (by omega)]
   obtain ⟨so,eo,hbo,heq⟩:∃ so eo,pureCall E.P (L E) 13 [.agg #[.int .i64 o.lot,phR.o (some false) o.phs]]=some (.tuple #[.string ⟨⟨so⟩⟩,.int .i64 eo])∧(eo≠0∨(decide (Dw.enc d=so)=decide (d=o)∧eo=0)):=by
    cases hFo:formB o with
    | false=>rw [hFo,if_neg (by decide)] at bo;exact ⟨_,_,bo,.inl (by decide)⟩
    | true =>
     rw [hFo,if_pos rfl] at bo
     refine ⟨_,_,bo,.inr ⟨?_,rfl⟩⟩
     rw [Bool.eq_iff_iff,decide_eq_true_iff,decide_eq_true_iff]
     exact ⟨fun h=>Dw.enc_inj hfit (Dw.form_fit hFo) h,fun h=>by rw [h]⟩
   clear bo
   generalize phR.o (some false) d.phs=D at *
   generalize phR.o (some false) o.phs=O at *
   generalize (Dw.enc d).take ((Dw.enc d).length / 2)=S2 at *
   generalize (Dw.enc d).length / 2=N2 at *
   generalize Dw.enc d++[48,59]=S3 at *
   generalize Dw.enc d=S at *
   generalize decide (d=o)=eq at *
   refine ⟨[.cells tD [.int .i64 d.lot,D] 0,.cells tD [.int .i64 o.lot,O] 0,.cells tD [.int .i64 d.lot,D] 0,.cells tD [.int .i64 0,.slice none 0 0] 0,.cells tD [.int .i64 0,.slice none 0 0] 0],?_⟩
   have eb:aBin E.P .eql 4 (.bool eq) (.bool eq)=some (.bool true):=by cases eq <;> kernel_rfl
   rcases heq with h0 | ⟨h1,h0⟩
   ·simp -implicitDefEqProofs [r5,p5,ret0 m11,sm,ret0 m12,rzd,rzo,fd,fo,ret0 m13,bd,hbo,ret1 m31,sS,r1,r2,r3,le,qo,ta,ad,ret0 m21,fod,ret0 m30,s1,h0,-reify_agg]
   ·subst h0
    simp -implicitDefEqProofs [r5,p5,ret0 m11,sm,ret0 m12,rzd,rzo,fd,fo,ret0 m13,bd,hbo,ret1 m31,sS,r1,r2,r3,le,qo,ta,ad,ret0 m21,fod,ret0 m30,s1,s2,h1,eb,-reify_agg]
end Go.Proofs.YtplebjehcgcdeaaGreatDoor.Bm
namespace Go.Proofs.YtplebjehcgcdeaaGreatDoor.Bm
open Go Go.RowKit
open Dw (Vol Ent Phs Drw)
abbrev tBx:TypeId:=58
abbrev tRc:TypeId:=56
theorem fsR9:fsOf E.P tRc=some [(0,3),(1,3),(2,3),(3,3)]:=by kernel_rfl
theorem fsX9:fsOf E.P tBx=some [(0,tRc),(4,3),(5,3)]:=by kernel_rfl
theorem fsV9:fsOf E.P tV=some [(0,tBx),(6,3),(7,3),(8,4)]:=by kernel_rfl
theorem fsE9:fsOf E.P tE=some [(0,9),(1,3)]:=by kernel_rfl
theorem fsP9:fsOf E.P tP=some [(0,52),(1,76)]:=by kernel_rfl
theorem fsD9:fsOf E.P tD=some [(0,3),(1,35)]:=by kernel_rfl
theorem nR9:E.P.cellsOf tRc=4:=by kernel_rfl
theorem nX9:E.P.cellsOf tBx=6:=by kernel_rfl
theorem nV9:E.P.cellsOf tV=9:=by kernel_rfl
theorem nE9:E.P.cellsOf tE=2:=by kernel_rfl
theorem nP9:E.P.cellsOf tP=2:=by kernel_rfl
theorem nD9:E.P.cellsOf tD=2:=by kernel_rfl
theorem ni9:E.P.cellsOf 3=1:=by kernel_rfl
theorem nb9:E.P.cellsOf 4=1:=by kernel_rfl
theorem ns9:E.P.cellsOf 9=1:=by kernel_rfl
theorem nvs9:E.P.cellsOf 52=1:=by kernel_rfl
theorem nes9:E.P.cellsOf 76=1:=by kernel_rfl
theorem nps9:E.P.cellsOf 35=1:=by kernel_rfl
theorem ui9:E.P.underlying 3=some (.int .i64):=by kernel_rfl
theorem ub9:E.P.underlying 4=some .bool:=by kernel_rfl
theorem us9:E.P.underlying 9=some .string:=by kernel_rfl
theorem uvs9:E.P.underlying 52=some (.slice tV):=by kernel_rfl
theorem ues9:E.P.underlying 76=some (.slice tE):=by kernel_rfl
theorem ups9:E.P.underlying 35=some (.slice tP):=by kernel_rfl
theorem bV9:E.P.bytesOf tV=72:=by kernel_rfl
theorem bE9:E.P.bytesOf tE=24:=by kernel_rfl
theorem bP9:E.P.bytesOf tP=48:=by kernel_rfl
theorem gV9:aggT E.P tV=some true:=by kernel_rfl
theorem gE9:aggT E.P tE=some true:=by kernel_rfl
theorem gP9:aggT E.P tP=some true:=by kernel_rfl
theorem gD9:aggT E.P tD=some true:=by kernel_rfl
theorem vol_of {n:Nat} {c:List Value} (h:Wt E.P n tV c):∃ v:Vol,c=volR.enc v:=by
 obtain ⟨hl,hf⟩:=wt_struct fsV9 h
 rw [nV9] at hl
 obtain ⟨a0,c,rfl⟩:=List.exists_cons_of_length_eq_add_one hl;have hl:=Nat.succ.inj hl
 obtain ⟨a1,c,rfl⟩:=List.exists_cons_of_length_eq_add_one hl;have hl:=Nat.succ.inj hl
 obtain ⟨a2,c,rfl⟩:=List.exists_cons_of_length_eq_add_one hl;have hl:=Nat.succ.inj hl
 obtain ⟨a3,c,rfl⟩:=List.exists_cons_of_length_eq_add_one hl;have hl:=Nat.succ.inj hl
 obtain ⟨a4,c,rfl⟩:=List.exists_cons_of_length_eq_add_one hl;have hl:=Nat.succ.inj hl
 obtain ⟨a5,c,rfl⟩:=List.exists_cons_of_length_eq_add_one hl;have hl:=Nat.succ.inj hl
 obtain ⟨a6,c,rfl⟩:=List.exists_cons_of_length_eq_add_one hl;have hl:=Nat.succ.inj hl
 obtain ⟨a7,c,rfl⟩:=List.exists_cons_of_length_eq_add_one hl;have hl:=Nat.succ.inj hl
 obtain ⟨a8,c,rfl⟩:=List.exists_cons_of_length_eq_add_one hl;have hl:=Nat.succ.inj hl
 obtain rfl:=List.eq_nil_of_length_eq_zero hl
 obtain ⟨mx,qx⟩:=hf (0,tBx) (by simp)
 replace qx:Wt E.P mx tBx [a0,a1,a2,a3,a4,a5]:=by simpa [nX9] using qx
 obtain ⟨_,hx⟩:=wt_struct fsX9 qx
 obtain ⟨mr,qr⟩:=hx (0,tRc) (by simp)
 replace qr:Wt E.P mr tRc [a0,a1,a2,a3]:=by simpa [nR9] using qr
 obtain ⟨_,hr⟩:=wt_struct fsR9 qr
 obtain ⟨m0,q0⟩:=hr (0,3) (by simp)
 replace q0:Wt E.P m0 3 [a0]:=by simpa [ni9] using q0
 obtain ⟨m1,q1⟩:=hr (1,3) (by simp)
 replace q1:Wt E.P m1 3 [a1]:=by simpa [ni9] using q1
 obtain ⟨m2,q2⟩:=hr (2,3) (by simp)
 replace q2:Wt E.P m2 3 [a2]:=by simpa [ni9] using q2
 obtain ⟨m3,q3⟩:=hr (3,3) (by simp)
 replace q3:Wt E.P m3 3 [a3]:=by simpa [ni9] using q3
 obtain ⟨m4,q4⟩:=hx (4,3) (by simp)
 replace q4:Wt E.P m4 3 [a4]:=by simpa [ni9] using q4
 obtain ⟨m5,q5⟩:=hx (5,3) (by simp)
 replace q5:Wt E.P m5 3 [a5]:=by simpa [ni9] using q5
 obtain ⟨m6,q6⟩:=hf (6,3) (by simp)
 replace q6:Wt E.P m6 3 [a6]:=by simpa [ni9] using q6
 obtain ⟨m7,q7⟩:=hf (7,3) (by simp)
 replace q7:Wt E.P m7 3 [a7]:=by simpa [ni9] using q7
 obtain ⟨m8,q8⟩:=hf (8,4) (by simp)
 replace q8:Wt E.P m8 4 [a8]:=by simpa [nb9] using q8
 obtain ⟨z0,e,_⟩:=wt_int ui9 q0;obtain rfl:=List.singleton_inj.1 e
 obtain ⟨z1,e,_⟩:=wt_int ui9 q1;obtain rfl:=List.singleton_inj.1 e
 obtain ⟨z2,e,_⟩:=wt_int ui9 q2;obtain rfl:=List.singleton_inj.1 e
 obtain ⟨z3,e,_⟩:=wt_int ui9 q3;obtain rfl:=List.singleton_inj.1 e
 obtain ⟨z4,e,_⟩:=wt_int ui9 q4;obtain rfl:=List.singleton_inj.1 e
 obtain ⟨z5,e,_⟩:=wt_int ui9 q5;obtain rfl:=List.singleton_inj.1 e
 obtain ⟨z6,e,_⟩:=wt_int ui9 q6;obtain rfl:=List.singleton_inj.1 e
 obtain ⟨z7,e,_⟩:=wt_int ui9 q7;obtain rfl:=List.singleton_inj.1 e
 obtain ⟨z8,e⟩:=wt_bool ub9 q8;obtain rfl:=List.singleton_inj.1 e
 exact ⟨⟨z0,z1,z2,z3,z4,z5,z6,z7,z8⟩,rfl⟩
theorem ent_of {n:Nat} {c:List Value} (h:Wt E.P n tE c):∃ v:Ent,c=entR.enc v:=by
 obtain ⟨hl,hf⟩:=wt_struct fsE9 h
 rw [nE9] at hl
 obtain ⟨a0,c,rfl⟩:=List.exists_cons_of_length_eq_add_one hl;have hl:=Nat.succ.inj hl
 obtain ⟨a1,c,rfl⟩:=List.exists_cons_of_length_eq_add_one hl;have hl:=Nat.succ.inj hl
 obtain rfl:=List.eq_nil_of_length_eq_zero hl
 obtain ⟨m0,q0⟩:=hf (0,9) (by simp)
 replace q0:Wt E.P m0 9 [a0]:=by simpa [ns9] using q0
 obtain ⟨m1,q1⟩:=hf (1,3) (by simp)
 replace q1:Wt E.P m1 3 [a1]:=by simpa [ni9] using q1
 obtain ⟨⟨⟨s⟩⟩,e,_⟩:=wt_str us9 q0;obtain rfl:=List.singleton_inj.1 e
 obtain ⟨z1,e,_⟩:=wt_int ui9 q1;obtain rfl:=List.singleton_inj.1 e
 exact ⟨(s,z1),rfl⟩
theorem recs_of {α:Type} (R:Rec α) {t e:TypeId} {b:Nat} (ut:E.P.underlying t=some (.slice e)) (gt:aggT E.P e=some true) (hb:E.P.bytesOf e=b) {Q:α→Prop} (one:∀ {n:Nat} {c:List Value},Wt E.P n e c→∃ v:α,c=R.enc v∧Q v) {n:Nat} {c:List Value} (h:Wt E.P n t c) :
  ∃ l:List α,c=[lst false (R.vals l)]∧l.length * b≤reachBytes∧∀ x∈l,Q x:=by
 obtain ⟨ls,rfl,_,h2,h3⟩:=wt_sliceB ut h
 rw [hb] at h2
 obtain ⟨rs,rfl,k2⟩:=choose_list (cells:=R.enc) (Q:=Q) ls fun x hx=>by
  obtain ⟨m,hm⟩:=h3 x hx
  exact one hm
 refine ⟨rs,?_,by simpa using h2,k2⟩
 have e1:∀ l:List α,(l.map R.enc).map (elemV E.P e)=R.vals l:=by
  intro l
  induction l with
  | nil=>rfl
  | cons r l ih =>
   rw [List.map_cons,List.map_cons,ih]
   unfold elemV
   rw [if_pos gt]
   rfl
 rw [e1]
theorem ph_of {n:Nat} {c:List Value} (h:Wt E.P n tP c):∃ p:Phs,c=phR.enc p∧p.vols.length≤281474976710656∧p.gives.length≤281474976710656:=by
 obtain ⟨hl,hf⟩:=wt_struct fsP9 h
 rw [nP9] at hl
 obtain ⟨a0,c,rfl⟩:=List.exists_cons_of_length_eq_add_one hl;have hl:=Nat.succ.inj hl
 obtain ⟨a1,c,rfl⟩:=List.exists_cons_of_length_eq_add_one hl;have hl:=Nat.succ.inj hl
 obtain rfl:=List.eq_nil_of_length_eq_zero hl
 obtain ⟨m0,q0⟩:=hf (0,52) (by simp)
 replace q0:Wt E.P m0 52 [a0]:=by simpa [nvs9] using q0
 obtain ⟨m1,q1⟩:=hf (1,76) (by simp)
 replace q1:Wt E.P m1 76 [a1]:=by simpa [nes9] using q1
 obtain ⟨vs,e,k1,_⟩:=recs_of volR uvs9 gV9 bV9 (Q:=fun _=>True) (fun h=>(vol_of h).imp fun _ h=>⟨h,trivial⟩) q0
 obtain rfl:=List.singleton_inj.1 e
 obtain ⟨es,e,k2,_⟩:=recs_of entR ues9 gE9 bE9 (Q:=fun _=>True) (fun h=>(ent_of h).imp fun _ h=>⟨h,trivial⟩) q1
 obtain rfl:=List.singleton_inj.1 e
 unfold reachBytes at k1 k2
 exact ⟨⟨vs,es⟩,rfl,by show vs.length≤_;omega,by show es.length≤_;omega⟩
theorem drwV {n:Nat} {c:List Value} (h:Wt E.P n tD c):∃ d:Drw,elemV E.P tD c=drV (some false) d∧Held d:=by
 obtain ⟨hl,hf⟩:=wt_struct fsD9 h
 rw [nD9] at hl
 obtain ⟨a0,c,rfl⟩:=List.exists_cons_of_length_eq_add_one hl;have hl:=Nat.succ.inj hl
 obtain ⟨a1,c,rfl⟩:=List.exists_cons_of_length_eq_add_one hl;have hl:=Nat.succ.inj hl
 obtain rfl:=List.eq_nil_of_length_eq_zero hl
 obtain ⟨m0,q0⟩:=hf (0,3) (by simp)
 replace q0:Wt E.P m0 3 [a0]:=by simpa [ni9] using q0
 obtain ⟨m1,q1⟩:=hf (1,35) (by simp)
 replace q1:Wt E.P m1 35 [a1]:=by simpa [nps9] using q1
 obtain ⟨z,e,_⟩:=wt_int ui9 q0;obtain rfl:=List.singleton_inj.1 e
 obtain ⟨ps,e,k1,k2⟩:=recs_of phR ups9 gP9 bP9 ph_of q1
 obtain rfl:=List.singleton_inj.1 e
 unfold reachBytes at k1
 refine ⟨⟨z,ps⟩,?_,by show ps.length≤_;omega,k2⟩
 unfold elemV
 rw [if_pos gD9]
 rfl
end Go.Proofs.YtplebjehcgcdeaaGreatDoor.Bm
