/-
 The reference's loops, plain: where the least corner stands, and that what is marked is closed. Conditions: none. No program in sight.
-/
import Derived.Test.YtnhdabelepjgbaaGreatQT24
import Derived.Test.YtnhdabelepjgbaaGreatQT29
import Derived.Test.YtnhdabelepjgbaaGreatQT26
import Derived.Test.YtnhdabelepjgbaaGreatQT28
namespace Go.Proofs.YtnhdabelepjgbaaGreat.Bm
open Go Go.RowKit
open Rg (Rect Pt sidesP upS crossB onB sd ltP rightP allFr allFr_step allFr_end corn7 meet7 row7 right7)
theorem less_spec (a b:Pt):pureCall E.P (L E) 28 [.agg ⟨[.int .i64 a.1,.int .i64 a.2]⟩,.agg ⟨[.int .i64 b.1,.int .i64 b.2]⟩]=some (.bool (ltP a b)):=by
 unfold ltP
 rw [pureCall_fn F28 rfl]
 by_cases h1:a.1<b.1
 ·simp -implicitDefEqProofs [r28,padS,h1]
 by_cases h2:a.1=b.1
 ·by_cases h3:a.2<b.2 <;> simp -implicitDefEqProofs [r28,padS,h1,h2,h3]
 ·simp -implicitDefEqProofs [r28,padS,h1,h2]
theorem meet_spec (a b c d:Pt):pureCall E.P (L E) 29 [.agg ⟨[.int .i64 a.1,.int .i64 a.2]⟩,.agg ⟨[.int .i64 b.1,.int .i64 b.2]⟩,.agg ⟨[.int .i64 c.1,.int .i64 c.2]⟩,.agg ⟨[.int .i64 d.1,.int .i64 d.2]⟩]=some (.bool (crossB (a,b) (c,d))):=by
 unfold crossB
 simp only
 rw [pureCall_fn F29 rfl]
 by_cases h:max (min a.1 b.1) (min c.1 d.1)≤min (max a.1 b.1) (max c.1 d.1)
 ·simp -implicitDefEqProofs [r29,p29,min_int,max_int,h]
 ·simp -implicitDefEqProofs [r29,p29,min_int,max_int,h]
set_option maxHeartbeats 4000000 in
theorem corners_spec (x:Bool) (p:List Pt) (hp:p.length≤1000):pureCall E.P (L E) 27 [lst x (spanR.vals p)]=some (.bool (allFr (corn7 p) 0 p.length)):=by
 have ln:∀ h,lenT .sl h (lst x (spanR.vals p))=some (.int .i64 p.length):=fun h=>Rec.tree_len
 have bP:∀ d n,below (d+1) n (lst x (spanR.vals p))=true:=fun d n=>rfl
 have pix:=pt_index x p
 rw [pureCall_fn F27 rfl]
 generalize hPV:lst x (spanR.vals p)=PV at *
 simp -implicitDefEqProofs [r27,p27,ln]
 rw [LL_rec (α:=Nat) 0 (fun i=>[(4,.int .i64 (i:Int))]) (fun _=>[]) (fun i=>if allFr (corn7 p) i (p.length-i) then (.exit 0,[(4,undef)],[]) else (.ret,[(2,.bool false),(4,undef)],[])) (fun i=>i≤p.length) (fun i=>p.length-i)]
 ·rw [Nat.sub_zero]
  cases allFr (corn7 p) 0 p.length <;> simp -implicitDefEqProofs [k27_3]
 ·exact Nat.zero_le _
 ·simp -implicitDefEqProofs [k27_3]
 ·rfl
 ·intro nx i hi ih
  by_cases h:i<p.length
  ·have h':(i:Int)<(p.length:Int):=by omega
   have ih:=ih (i+1) (by omega) (by omega)
   have hm1:(i+1) % p.length<p.length:=Nat.mod_lt _ (by omega)
   have hm2:(i+2) % p.length<p.length:=Nat.mod_lt _ (by omega)
   have w1:IntKind.i64.wrap ((i:Int)+1)=((i+1:Nat):Int):=(wrap64 (by omega) (by omega)).trans (by omega)
   have w2:IntKind.i64.wrap ((i:Int)+2)=((i+2:Nat):Int):=(wrap64 (by omega) (by omega)).trans (by omega)
   have rm1:=rem_nat (P:=E.P) (t:=3) (m:=i+1) (n:=p.length) (by omega)
   have rm2:=rem_nat (P:=E.P) (t:=3) (m:=i+2) (n:=p.length) (by omega)
   have pa:=pix i h
   have pb:=pix _ hm1
   have pc:=pix _ hm2
   have ec:=Rg.corn7_pts h rfl rfl rfl
   rw [span_val] at pa pb pc
   rw [allFr_step h,ec]
   clear ec hm1 hm2
   generalize allFr (corn7 p) (i+1) (p.length-(i+1))=q at ih ⊢
   generalize p.getD i (0,0)=a at *
   generalize (i+1) % p.length=j1 at *
   generalize (i+2) % p.length=j2 at *
   generalize p.getD j1 (0,0)=b at *
   generalize p.getD j2 (0,0)=c at *
   obtain ⟨ax,ay⟩:=a
   obtain ⟨bx,byy⟩:=b
   obtain ⟨cx,cy⟩:=c
   unfold onB
   simp only at pa pb pc ⊢
   simp -implicitDefEqProofs [k27_3,-Int.natCast_add] at ih
   by_cases h1:0≤ax
   case neg =>
    have h1':ax<0:=by omega
    rw [decide_eq_false h1]
    simp -implicitDefEqProofs [r27_3,k27_3,h,h',pa,pb,pc,w1,w2,rm1,rm2,h1,h1',trim_cut,bP,-Int.natCast_add]
   by_cases h2:ax≤1048576
   case neg =>
    have h1':¬ ax<0:=by omega
    have h2':1048576<ax:=by omega
    rw [decide_eq_false h2,Bool.and_false]
    simp -implicitDefEqProofs [r27_3,k27_3,h,h',pa,pb,pc,w1,w2,rm1,rm2,h1',h2',trim_cut,bP,-Int.natCast_add]
   have h1':¬ ax<0:=by omega
   have h2':¬ 1048576<ax:=by omega
   by_cases h3:0≤ay
   case neg =>
    have h3':ay<0:=by omega
    rw [decide_eq_false h3,Bool.and_false]
    simp -implicitDefEqProofs [r27_3,k27_3,h,h',pa,pb,pc,w1,w2,rm1,rm2,h1',h2',h3',trim_cut,bP,-Int.natCast_add]
   have h3':¬ ay<0:=by omega
   by_cases h4:ay≤1048576
   case neg =>
    have h4':1048576<ay:=by omega
    rw [decide_eq_false h4,Bool.and_false]
    simp -implicitDefEqProofs [r27_3,k27_3,h,h',pa,pb,pc,w1,w2,rm1,rm2,h1',h2',h3',h4',trim_cut,bP,-Int.natCast_add]
   have h4':¬ 1048576<ay:=by omega
   rw [decide_eq_true h1,decide_eq_true h2,decide_eq_true h3,decide_eq_true h4]
   by_cases e1:ax=bx
   ·subst e1
    by_cases e2:ay=byy
    ·subst e2
     by_cases e3:ax=cx
     ·subst e3
      simp -implicitDefEqProofs [r27_3,k27_3,h,h',pa,pb,pc,w1,w2,rm1,rm2,h1',h2',h3',h4',beq,trim_cut,bP,-Int.natCast_add]
     ·have _u:=e3
      simp -implicitDefEqProofs [r27_3,k27_3,h,h',pa,pb,pc,w1,w2,rm1,rm2,h1',h2',h3',h4',e3,beq,trim_cut,bP,-Int.natCast_add]
    ·have _u:=e2
     by_cases e3:ax=cx
     ·subst e3
      simp -implicitDefEqProofs [r27_3,k27_3,h,h',pa,pb,pc,w1,w2,rm1,rm2,h1',h2',h3',h4',e2,beq,trim_cut,bP,-Int.natCast_add]
     ·have _u:=e3
      simp -implicitDefEqProofs [r27_3,k27_3,h,h',pa,pb,pc,w1,w2,rm1,rm2,h1',h2',h3',h4',e2,e3,beq,trim_cut,bP,-Int.natCast_add]
      exact ih
   ·have _u:=e1
    by_cases e2:ay=byy
    ·subst e2
     by_cases e3:bx=cx
     ·subst e3
      simp -implicitDefEqProofs [r27_3,k27_3,h,h',pa,pb,pc,w1,w2,rm1,rm2,h1',h2',h3',h4',e1,beq,trim_cut,bP,-Int.natCast_add]
      exact ih
     ·have _u:=e3
      simp -implicitDefEqProofs [r27_3,k27_3,h,h',pa,pb,pc,w1,w2,rm1,rm2,h1',h2',h3',h4',e1,e3,beq,trim_cut,bP,-Int.natCast_add]
    ·have _u:=e2
     by_cases e3:bx=cx
     ·subst e3
      simp -implicitDefEqProofs [r27_3,k27_3,h,h',pa,pb,pc,w1,w2,rm1,rm2,h1',h2',h3',h4',e1,e2,beq,trim_cut,bP,-Int.natCast_add]
     ·have _u:=e3
      simp -implicitDefEqProofs [r27_3,k27_3,h,h',pa,pb,pc,w1,w2,rm1,rm2,h1',h2',h3',h4',e1,e2,e3,beq,trim_cut,bP,-Int.natCast_add]
  ·have h':¬ ((i:Int)<(p.length:Int)):=by omega
   rw [allFr_end (by omega)]
   simp -implicitDefEqProofs [r27_3,k27_3,h,h',trim_le]
set_option maxHeartbeats 4000000 in
theorem right7_spec (x:Bool) (p:List Pt) (hp:p.length≤1000000):pureCall E.P (L E) 9 [lst x (spanR.vals p)]=some (.bool (rightP p)):=by
 have ln:∀ h,lenT .sl h (lst x (spanR.vals p))=some (.int .i64 p.length):=fun h=>Rec.tree_len
 have bP:∀ d n,below (d+1) n (lst x (spanR.vals p))=true:=fun d n=>rfl
 have rf:∀ h,reify E.P 8 h (lst x (spanR.vals p))=some (lst x (spanR.vals p)):=fun _=>rfl
 have pix:=pt_index x p
 have hC:p.length≤1000→_:=corners_spec x p
 rw [← Rg.right7_eq,pureCall_fn F9 rfl]
 generalize hPV:lst x (spanR.vals p)=PV at *
 unfold right7
 by_cases h4:4≤p.length
 case neg =>
  have h4':(p.length:Int)<4:=by omega
  have h4'':p.length<4:=by omega
  rw [decide_eq_false h4]
  simp -implicitDefEqProofs [-List.getD_eq_getElem?_getD,r9,p9,ln,h4',h4'']
 have h4':¬ ((p.length:Int)<4):=by omega
 have h4'':¬ (p.length<4):=by omega
 rw [decide_eq_true h4]
 by_cases h60:p.length≤60
 case neg =>
  have h60':60<(p.length:Int):=by omega
  have h60'':60<p.length:=by omega
  rw [decide_eq_false h60]
  simp -implicitDefEqProofs [-List.getD_eq_getElem?_getD,r9,p9,ln,h4',h4'',h60',h60'']
 have h60':¬ (60<(p.length:Int)):=by omega
 have h60'':¬ (60<p.length):=by omega
 rw [decide_eq_true h60]
 have hC:=hC (by omega)
 have s0:=Rg.sd_pts (p:=p) (i:=0) (by omega)
 rw [Nat.zero_add,Nat.mod_eq_of_lt (show 1<p.length by omega)] at s0
 have p0:=pix 0 (by omega)
 have p1:=pix 1 (by omega)
 rw [span_val] at p0 p1
 have p0':indexAddrT (.sl 42 ⟨some true,some 2⟩) PV (.int .i64 0)=_:=p0
 have p1':indexAddrT (.sl 42 ⟨some true,some 2⟩) PV (.int .i64 1)=_:=p1
 rw [s0]
 cases hc:allFr (corn7 p) 0 p.length
 ·rw [hc] at hC
  simp -implicitDefEqProofs [-List.getD_eq_getElem?_getD,r9,p9,ln,h4',h4'',h60',h60'',ret0 m27,rf,hC]
 rw [hc] at hC
 by_cases hy:(p.getD 0 (0,0)).2=(p.getD 1 (0,0)).2
 case neg =>
  rw [decide_eq_false (show ¬ (((p.getD 0 (0,0),p.getD 1 (0,0)):Pt × Pt).1.2=((p.getD 0 (0,0),p.getD 1 (0,0)):Pt × Pt).2.2) from hy)]
  simp -implicitDefEqProofs [-List.getD_eq_getElem?_getD,r9,p9,ln,h4',h4'',h60',h60'',ret0 m27,rf,hC,p0',p1',hy]
 rw [decide_eq_true (show ((p.getD 0 (0,0),p.getD 1 (0,0)):Pt × Pt).1.2=((p.getD 0 (0,0),p.getD 1 (0,0)):Pt × Pt).2.2 from hy),Bool.true_and,Bool.true_and,Bool.true_and]
 simp -implicitDefEqProofs [-List.getD_eq_getElem?_getD,r9,p9,ln,h4',h4'',h60',h60'',ret0 m27,rf,hC,p0',p1',hy]
 rw [LL_rec (α:=Nat) 0 (fun i=>[(4,.int .i64 (i:Int))]) (fun _=>[]) (fun i=>if allFr (row7 p) i (p.length-i) then (.exit 0,[(4,undef)],[]) else (.ret,[(2,.bool false),(4,undef)],[])) (fun i=>i≤p.length) (fun i=>p.length-i)]
 ·rw [Nat.sub_zero]
  cases allFr (row7 p) 0 p.length <;> simp -implicitDefEqProofs [-List.getD_eq_getElem?_getD,k9_7]
 ·exact Nat.zero_le _
 ·simp -implicitDefEqProofs [-List.getD_eq_getElem?_getD,k9_7]
 ·rfl
 ·intro nx i hi ih
  by_cases h:i<p.length
  ·have h':(i:Int)<(p.length:Int):=by omega
   have ih:=ih (i+1) (by omega) (by omega)
   have wi:IntKind.i64.wrap ((i:Int)+1)=((i+1:Nat):Int):=(wrap64 (by omega) (by omega)).trans (by omega)
   have wi2:IntKind.i64.wrap ((i:Int)+2)=((i+2:Nat):Int):=(wrap64 (by omega) (by omega)).trans (by omega)
   have pI:=pix i h
   rw [span_val] at pI
   have ls:=less_spec (p.getD 0 (0,0)) (p.getD i (0,0))
   rw [allFr_step h]
   generalize hq:allFr (row7 p) (i+1) (p.length-(i+1))=q at ih ⊢
   have er:row7 p i=((decide (i=0) || ltP (p.getD 0 (0,0)) (p.getD i (0,0))) && allFr (meet7 p i) (i+2) (p.length-(i+2))):=rfl
   rw [er]
   simp -implicitDefEqProofs [-List.getD_eq_getElem?_getD,k9_7,-Int.natCast_add] at ih
   by_cases h0:i=0∨ltP (p.getD 0 (0,0)) (p.getD i (0,0))=true
   case neg =>
    have h0a:¬ i=0:=fun e=>h0 (.inl e)
    have h0b:ltP (p.getD 0 (0,0)) (p.getD i (0,0))=false:=by
     cases hl:ltP (p.getD 0 (0,0)) (p.getD i (0,0))
     ·rfl
     ·exact absurd (.inr hl) h0
    have h0p:0<(i:Int):=by omega
    have h0q:0<i:=by omega
    rw [h0b] at ls ⊢
    rw [decide_eq_false h0a]
    simp -implicitDefEqProofs [-List.getD_eq_getElem?_getD,r9_7,k9_7,h,h',p0',pI,h0p,h0q,ret0 m28,ls,trim_le,-Int.natCast_add]
   have hd:(decide (i=0) || ltP (p.getD 0 (0,0)) (p.getD i (0,0)))=true:=by
    rcases h0 with h0 | h0
    ·rw [decide_eq_true h0];rfl
    ·rw [h0,Bool.or_true]
   rw [hd,Bool.true_and]
   have n0:p.length≠0:=by omega
   by_cases hi0:0<i
   case' pos =>
    have hlt:ltP (p.getD 0 (0,0)) (p.getD i (0,0))=true:=h0.resolve_left (by omega)
    have h0p:0<(i:Int):=by omega
    rw [hlt] at ls
    simp -implicitDefEqProofs [-List.getD_eq_getElem?_getD,r9_7,k9_7,h,h',p0',pI,hi0,h0p,ret0 m28,ls,wi2,-Int.natCast_add]
   case' neg =>
    have h0p:¬ 0<(i:Int):=by omega
    simp -implicitDefEqProofs [-List.getD_eq_getElem?_getD,r9_7,k9_7,h,h',hi0,h0p,wi2,-Int.natCast_add]
   all_goals
    rw [LL_rec (α:=Nat) (i+2) (fun k=>[(5,.int .i64 (k:Int))]) (fun _=>[]) (fun k=>if allFr (meet7 p i) k (p.length-k) then (.exit 2,[(5,undef)],[]) else (.ret,[(2,.bool false),(5,undef)],[])) (fun k=>i+2≤k) (fun k=>p.length-k)]
    ·cases allFr (meet7 p i) (i+2) (p.length-(i+2))
     ·simp -implicitDefEqProofs [-List.getD_eq_getElem?_getD,k9_12,trim_le]
     ·simp -implicitDefEqProofs [-List.getD_eq_getElem?_getD,k9_12,wi,trim_le,-Int.natCast_add]
      exact ih
    ·exact Nat.le_refl _
    ·simp -implicitDefEqProofs [-List.getD_eq_getElem?_getD,k9_12]
    ·rfl
    ·intro nx k hk ih
     by_cases hkn:k<p.length
     ·have hkn':(k:Int)<(p.length:Int):=by omega
      have hi1:i+1<p.length:=by omega
      have ih:=ih (k+1) (by omega) (by omega)
      have wk:IntKind.i64.wrap ((k:Int)+1)=((k+1:Nat):Int):=(wrap64 (by omega) (by omega)).trans (by omega)
      have rmk:=rem_nat (P:=E.P) (t:=3) (m:=k+1) (n:=p.length) (by omega)
      have hmk:(k+1) % p.length<p.length:=Nat.mod_lt _ (by omega)
      have pI1:=pix (i+1) hi1
      have pK:=pix k hkn
      have pM:=pix _ hmk
      rw [span_val] at pI1 pK pM
      have ms:=meet_spec (p.getD i (0,0)) (p.getD (i+1) (0,0)) (p.getD k (0,0)) (p.getD ((k+1) % p.length) (0,0))
      have emm:meet7 p i k = !(decide ((k+1) % p.length≠i) && crossB (p.getD i (0,0),p.getD (i+1) (0,0)) (p.getD k (0,0),p.getD ((k+1) % p.length) (0,0))):=by
       unfold meet7
       rw [Rg.sd_pts h,Rg.sd_pts hkn,Nat.mod_eq_of_lt hi1]
      rw [allFr_step hkn,emm]
      clear emm
      generalize crossB (p.getD i (0,0),p.getD (i+1) (0,0)) (p.getD k (0,0),p.getD ((k+1) % p.length) (0,0))=cb at *
      generalize (k+1) % p.length=m at *
      generalize allFr (meet7 p i) (k+1) (p.length-(k+1))=qk at ih ⊢
      simp -implicitDefEqProofs [-List.getD_eq_getElem?_getD,k9_12,-Int.natCast_add] at ih
      by_cases h1:m=i
      ·subst h1
       simp -implicitDefEqProofs [-List.getD_eq_getElem?_getD,r9_12,k9_12,hkn,hkn',wk,rmk,trim_le,-Int.natCast_add]
       exact ih
      ·have h1':¬ ((m:Int)=(i:Int)):=by omega
       cases cb
       ·simp -implicitDefEqProofs [-List.getD_eq_getElem?_getD,r9_12,k9_12,hkn,hkn',wi,wk,rmk,h1,h1',pI,pI1,pK,pM,ret0 m29,ms,trim_le,-Int.natCast_add]
        exact ih
       ·simp -implicitDefEqProofs [-List.getD_eq_getElem?_getD,r9_12,k9_12,hkn,hkn',wi,wk,rmk,h1,h1',pI,pI1,pK,pM,ret0 m29,ms,trim_le,-Int.natCast_add]
     ·have hkn':¬ ((k:Int)<(p.length:Int)):=by omega
      rw [allFr_end (by omega)]
      simp -implicitDefEqProofs [-List.getD_eq_getElem?_getD,r9_12,k9_12,hkn,hkn',trim_le]
  ·have h':¬ ((i:Int)<(p.length:Int)):=by omega
   rw [allFr_end (by omega)]
   simp -implicitDefEqProofs [-List.getD_eq_getElem?_getD,r9_7,k9_7,h,h',trim_le]
open Rg (Rect Slab Pt sidesP upS hB ysP colY polyL rightP sortU stripL outT emit pairs ends lowN lowN_le ins7 putAt in7 rows7)
def iO (o:List Int):Value:=match o with
 | []=>.slice none 0 0
 | o=>iT o
theorem iO_len {h:Heap} {o:List Int}:lenT .sl h (iO o)=some (.int .i64 o.length):=by
 cases o
 ·rfl
 ·exact iT_len
theorem iO_index {o:List Int} {i:Nat} (hi:i<o.length):indexAddrT (.sl 3 ⟨some false,some 1⟩) (iO o) (.int .i64 (i:Int))=some (cptr (.int .i64 o[i])):=by
 cases o
 ·exact absurd hi (Nat.not_lt_zero _)
 ·exact iT_index hi
theorem iO_reifyR {P:Program} (h:Heap) (o:List Int):reifyR P h (iO o)=some (iO o):=by cases o <;> rfl
theorem iO_bel {d n:Nat} {o:List Int}:below (d+1) n (iO o)=true:=by cases o <;> rfl
theorem int_all (o:List Int):(o.map (Value.int .i64)).all (fun v=>(cellsL v).length == 1)=true:=by simp [List.all_eq_true]
theorem int_cells {h:Heap} (x:Bool) (o:List Int):sliceCells h 1 (lst x (o.map (.int .i64)))=some (intR.flat o,o.length):=by
 rw [cells_lst (int_all o),int_flat]
 congr 2
 ·induction o with
  | nil=>rfl
  | cons z o ih=>rw [List.map_cons,List.flatMap_cons,ih];rfl
 ·simp
theorem iO_take {h:Heap} {o:List Int} {k:Nat} (hk:k≤o.length):∃ v,sliceT (.sl 3 ⟨some false,some 1⟩) h (iO o) none (some (.int .i64 (k:Int))) none=some v∧∀ h',sliceCells h' 1 v=some (intR.flat (o.take k),(o.take k).length):=by
 cases o with
 | nil =>
  have:k=0:=by simpa using hk
  subst this
  exact ⟨.slice none 0 0,rfl,fun _=>rfl⟩
 | cons z o =>
  refine ⟨_,slice_take (int_all _) (by simpa using hk),fun h'=>?_⟩
  rw [← List.map_take]
  exact int_cells _ _
theorem iO_drop {h:Heap} {o:List Int} {k:Nat} (hk:k≤o.length):∃ v,sliceT (.sl 3 ⟨some false,some 1⟩) h (iO o) (some (.int .i64 (k:Int))) none none=some v∧∀ h',sliceCells h' 1 v=some (intR.flat (o.drop k),(o.drop k).length):=by
 cases o with
 | nil =>
  have:k=0:=by simpa using hk
  subst this
  exact ⟨.slice none 0 0,rfl,fun _=>rfl⟩
 | cons z o =>
  refine ⟨_,slice_drop (int_all _) rfl (by simpa using hk),fun h'=>?_⟩
  rw [← List.map_drop]
  exact int_cells _ _
theorem app_ints {h:Heap} {b lo:Nat} {c m:List Int} {v:Value} (hob:h[b]?=some (intR.row 3 c)) (hv:sliceCells h 1 v=some (intR.flat m,m.length)) (hlo:lo≤b) (hc:c.length+m.length≤1000000) :
  appendT (some ⟨3,1,8,.int .i64 0,⟨some false,some 1⟩⟩) h lo false (intR.sl b c) v=some (intR.sl b (c++m),h.set b (intR.row 3 (c++m))) :=
 Rec.app (R:=intR) (m:=m) rfl hob hv hlo (by show (c.length+m.length) * 8≤2 ^ 47;omega)
theorem int_freezeE {h:Heap} {lo b:Nat} {l:List Int} (hob:h[b]?=some (intR.row 3 l)) (hlo:lo≤b):freezeV E.P depth lo h (intR.sl b l)=some (iT l,if l.length=0 then h else h.set b .dead):=by
 have e0:intR.sl b l=.slice (some ⟨b,0,some l.length⟩) l.length l.length:=by unfold Rec.sl;simp [intR]
 have hob':h[b]?=some (.cells 3 (l.map (.int .i64)) 1):=by rw [hob];unfold Rec.row;rw [int_flat];rfl
 rw [e0]
 exact frz_one8 hob' s3 g3 hlo (List.length_map _).symm (List.length_map _).symm (by simp [List.all_eq_true])
theorem iO_tr (o:List Int):isTr (iO o)=true:=by cases o <;> rfl
theorem app_start {h:Heap} {m:List Int} {v:Value} (z:Int) (hv:∀ h,sliceCells h 1 v=some (intR.flat m,m.length)) (hm:m.length≤100000):∃ w g,appendT (some ⟨3,1,8,.int .i64 0,⟨some false,some 1⟩⟩) h h.length true (.slice none 0 0) v=some (w,g) ∧
  appendT (some ⟨3,1,8,.int .i64 0,⟨some false,some 1⟩⟩) g h.length false w (lst true [.int .i64 z])=some (intR.sl h.length (m++[z]),h++[intR.row 3 (m++[z])]):=by
 by_cases h0:m=[]
 ·subst h0
  refine ⟨.slice none 0 0,h,?_,?_⟩
  ·unfold appendT
   simp only [Option.bind_some,hv]
   rfl
  ·unfold appendT
   simp only [Option.bind_some]
   rw [show sliceCells h 1 (lst true [.int .i64 z])=some (intR.flat [z],1) from cells_lst (by rfl)]
   simp [Rec.sl,Rec.row,intR,Rec.flat]
 ·refine ⟨intR.sl h.length m,h++[intR.row 3 m],?_,?_⟩
  ·have hl:m.length≠0:=fun e=>h0 (List.eq_nil_of_length_eq_zero e)
   unfold appendT
   simp only [Option.bind_some,hv]
   rw [if_neg hl,if_pos (by omega)]
   unfold Rec.sl Rec.row
   rw [Rec.flat_len];rfl
  ·have:=app_num (h:=h++[intR.row 3 m]) (b:=h.length) (lo:=h.length) (c:=m) z (by simp) (Nat.le_refl _) (by omega)
   rw [this]
   simp
set_option maxHeartbeats 2000000 in
theorem sorted7_spec (l:List Int) (hl:l.length≤10000):pureCall E.P (L E) 22 [iT l]=some (iO (sortU l)):=by
 rw [← Rg.ins7_sortU,pureCall_fn F22 rfl]
 simp -implicitDefEqProofs [r22,p22]
 rw [LL_for (γ:=List Int) l [] (fun i o=>[(3,iO o),(4,.int .i64 i)]) (fun _ _=>[])
  (fun _ rest o=>(.exit 0,[(3,iO (rest.foldl ins7 o)),(4,undef)],[])) (fun i o=>o.length≤i) (by omega) (Nat.le_refl _)]
 ·have rr:reifyR E.P [] (iO (l.foldl ins7 []))=some (iO (l.foldl ins7 [])):=iO_reifyR [] _
  generalize iO (l.foldl ins7 [])=RV at *
  simp -implicitDefEqProofs [k22_3,rr]
 ·simp -implicitDefEqProofs [k22_3,iO]
 ·rfl
 ·intro nx i o hi _
  simp -implicitDefEqProofs [r22_3,k22_3,hi,iT_len,trim_le]
 ·intro nx i z rest o hi hv hd hw ho ih
  have ixl:=iT_index hi
  rw [hv] at ixl
  have oln:∀ h,lenT .sl h (iO o)=some (.int .i64 o.length):=fun h=>iO_len
  have oix:∀ (j:Nat) (hj:j<o.length),indexAddrT (.sl 3 ⟨some false,some 1⟩) (iO o) (.int .i64 (j:Int))=some (cptr (.int .i64 o[j])):=fun j hj=>iO_index hj
  have hle:=lowN_le o z
  have gd:∀ j (hj:j<o.length),o.getD j 0=o[j]:=fun j hj=>by rw [List.getD_eq_getElem?_getD,List.getElem?_eq_getElem hj];rfl
  have ei:ins7 o z=if lowN o z<o.length∧o.getD (lowN o z) 0=z then o else putAt o (lowN o z) z:=rfl
  have tk:=fun (h:Heap) (k:Nat) (hk:k≤o.length)=>iO_take (h:=h) hk
  have dr:=fun (h:Heap) (k:Nat) (hk:k≤o.length)=>iO_drop (h:=h) hk
  have obl:∀ d n,below (d+1) n (iO o)=true:=fun _ _=>iO_bel
  have otr:=iO_tr o
  rw [List.foldl_cons]
  generalize hOV:iO o=OV at *
  simp -implicitDefEqProofs [r22_3,k22_3,hi,iT_len]
  rw [LL_rec (α:=Nat) 0 (fun k=>[(5,.int .i64 (k:Int))]) (fun _=>[]) (fun k=>(.exit 2,[(5,.int .i64 ((k+lowN (o.drop k) z:Nat):Int))],[])) (fun k=>k≤o.length) (fun k=>o.length-k)]
  ·rw [List.drop_zero,Nat.zero_add]
   generalize lowN o z=k at hle ei ⊢
   by_cases hc:k<o.length∧o.getD k 0=z
   ·rw [ei,if_pos hc]
    obtain ⟨hk,hkz⟩:=hc
    rw [gd _ hk] at hkz
    have hk':(k:Int)<(o.length:Int):=by omega
    have ih:=ih o (by omega)
    rw [hOV] at ih
    simp -implicitDefEqProofs [k22_3] at ih
    simp -implicitDefEqProofs [k22_6,oln,hk,hk',oix k hk,ixl,hkz,hw,trim_le]
    exact ih
   ·rw [ei,if_neg hc]
    have ih:=ih (putAt o k z) (by rw [Rg.putAt_len];omega)
    obtain ⟨tv,t1,t2⟩:=tk [] k hle
    obtain ⟨dv,d1,d2⟩:=dr [intR.row 3 (o.take k++[z])] k hle
    obtain ⟨wv,g1,a1,a2⟩:=app_start (h:=[]) (v:=tv) z t2 (by rw [List.length_take];omega)
    simp only [List.length_nil,List.nil_append] at a1 a2
    have a3:=app_ints (h:=[intR.row 3 (o.take k++[z])]) (b:=0) (lo:=0) (c:=o.take k++[z]) (m:=o.drop k) rfl (d2 _) (Nat.le_refl _) (by simp;omega)
    have ep:o.take k++[z]++o.drop k=putAt o k z:=by rw [List.append_assoc];rfl
    rw [ep] at a3
    have fz:=int_freezeE (h:=[intR.row 3 (putAt o k z)]) (lo:=0) (b:=0) (l:=putAt o k z) rfl (Nat.le_refl _)
    rw [if_neg (by rw [Rg.putAt_len];omega)] at fz
    have eO:iO (putAt o k z)=iT (putAt o k z):=by
     have hl:(putAt o k z).length=o.length+1:=Rg.putAt_len ..
     cases hq:putAt o k z with
     | nil=>rw [hq] at hl;exact absurd hl (by simp)
     | cons a q=>rfl
    rw [eO] at ih
    simp -implicitDefEqProofs [k22_3] at ih
    by_cases hk:k<o.length
    ·have hk':(k:Int)<(o.length:Int):=by omega
     have hne:¬ o[k]=z:=fun q=>hc ⟨hk,by rw [gd _ hk,q]⟩
     simp -implicitDefEqProofs [k22_6,oln,hk,hk',oix k hk,ixl,hne,prep_frz,prep_still,rop_loadC,isCp_cptr,otr,t1,d1,a1,a2,a3,lit_num,fz,hw,trim_cut,iT_bel,obl]
     exact ih
    ·have hk':¬ ((k:Int)<(o.length:Int)):=by omega
     simp -implicitDefEqProofs [k22_6,oln,hk,hk',ixl,prep_frz,prep_still,rop_loadC,isCp_cptr,otr,t1,d1,a1,a2,a3,lit_num,fz,hw,trim_cut,iT_bel,obl]
     exact ih
  ·exact Nat.zero_le _
  ·simp -implicitDefEqProofs [k22_6]
  ·rfl
  ·intro nx k hk ih
   by_cases hko:k<o.length
   ·have hk':(k:Int)<(o.length:Int):=by omega
    have e:o.drop k=o[k] :: o.drop (k+1):=List.drop_eq_getElem_cons hko
    have wk:IntKind.i64.wrap ((k:Int)+1)=((k+1:Nat):Int):=(wrap64 (by omega) (by omega)).trans (by omega)
    have ih:=ih (k+1) (by omega) (by omega)
    rw [e]
    simp -implicitDefEqProofs [k22_6,-Int.natCast_add] at ih
    by_cases hz:o[k]<z
    ·have el:k+lowN (o[k] :: o.drop (k+1)) z=k+1+lowN (o.drop (k+1)) z:=by
      show k+(if o[k]<z then _ else _)=_
      rw [if_pos hz];omega
     rw [el]
     simp -implicitDefEqProofs [r22_6,k22_6,oln,hko,hk',oix k hko,ixl,hz,wk,trim_le,-Int.natCast_add]
     exact ih
    ·have el:k+lowN (o[k] :: o.drop (k+1)) z=k:=by
      show k+(if o[k]<z then _ else _)=_
      rw [if_neg hz];rfl
     rw [el]
     simp -implicitDefEqProofs [r22_6,k22_6,oln,hko,hk',oix k hko,ixl,hz,trim_le]
   ·have hk':¬ ((k:Int)<(o.length:Int)):=by omega
    have e:k+lowN (o.drop k) z=k:=by rw [List.drop_eq_nil_of_le (by omega)];rfl
    rw [e]
    simp -implicitDefEqProofs [r22_6,k22_6,oln,hko,hk',trim_le]
open Rg (Rect Pt Sd cell turnI gtS fromI pickI nxI sgnI Net)
theorem has7_spec (k:Option Bool) (l:List Rect) (x y:Int) (hk:Rec.Ok k l) (hl:l.length≤1000000):pureCall E.P (L E) 59 [rectR.o k l,.int .i64 x,.int .i64 y]=some (.bool (cell l x y)):=by
 rw [pureCall_fn F59 rfl]
 simp -implicitDefEqProofs [r59,p59]
 rw [LL_for (γ:=Unit) l () (fun i _=>[(7,.int .i64 i)]) (fun _ _=>[]) (fun _ rest _=>if cell rest x y then (.ret,[(6,.bool true),(7,undef)],[]) else (.exit 0,[(7,undef)],[])) (fun _ _=>True) (by omega) trivial]
 ·cases h:cell l x y <;> simp -implicitDefEqProofs [k59_2]
 ·simp -implicitDefEqProofs [k59_2]
 ·rfl
 ·intro nx i c hi _
  simp -implicitDefEqProofs [r59_2,k59_2,hi,Rec.o_len hk,trim_le,cell]
 ·intro nx i r rest c hi hv hd hw _ ih
  have ih:=ih () trivial
  have ixi:=Rec.o_index (R:=rectR) (t:=39) (kk:=.i64) (s:=4) rfl hk hi
  rw [hv] at ixi
  have e:cell (r :: rest) x y=(r.has x y || cell rest x y):=rfl
  have eh:r.has x y=(decide (r.x0≤x) && decide (x<r.x1) && (decide (r.y0≤y) && decide (y<r.y1))):=rfl
  rw [e,eh]
  simp -implicitDefEqProofs [k59_2] at ih
  by_cases h1:r.x0≤x
  case neg =>
   simp -implicitDefEqProofs [r59_2,k59_2,hi,ixi,Rec.o_len hk,rect_val,h1,hw,trim_le]
   exact ih
  by_cases h2:x<r.x1
  case neg =>
   simp -implicitDefEqProofs [r59_2,k59_2,hi,ixi,Rec.o_len hk,rect_val,h1,h2,hw,trim_le]
   exact ih
  by_cases h3:r.y0≤y
  case neg =>
   simp -implicitDefEqProofs [r59_2,k59_2,hi,ixi,Rec.o_len hk,rect_val,h1,h2,h3,hw,trim_le]
   exact ih
  by_cases h4:y<r.y1
  case neg =>
   simp -implicitDefEqProofs [r59_2,k59_2,hi,ixi,Rec.o_len hk,rect_val,h1,h2,h3,h4,hw,trim_le]
   exact ih
  simp -implicitDefEqProofs [r59_2,k59_2,hi,ixi,Rec.o_len hk,rect_val,h1,h2,h3,h4,trim_le]
theorem turn7_spec (s t:Pt × Pt) (hs:nearS s) (ht:nearS t):pureCall E.P (L E) 61 [.agg ⟨[.int .i64 s.1.1,.int .i64 s.1.2,.int .i64 s.2.1,.int .i64 s.2.2]⟩,.agg ⟨[.int .i64 t.1.1,.int .i64 t.1.2,.int .i64 t.2.1,.int .i64 t.2.2]⟩]=some (.int .i64 (turnI s t)):=by
 obtain ⟨a1,a2,a3,a4,a5,a6,a7,a8⟩:=hs
 obtain ⟨b1,b2,b3,b4,b5,b6,b7,b8⟩:=ht
 have w1:IntKind.i64.wrap (s.2.1-s.1.1)=s.2.1-s.1.1:=wrap64 (by omega) (by omega)
 have w2:IntKind.i64.wrap (s.2.2-s.1.2)=s.2.2-s.1.2:=wrap64 (by omega) (by omega)
 have w3:IntKind.i64.wrap (t.2.1-t.1.1)=t.2.1-t.1.1:=wrap64 (by omega) (by omega)
 have w4:IntKind.i64.wrap (t.2.2-t.1.2)=t.2.2-t.1.2:=wrap64 (by omega) (by omega)
 have m1:=sgn_mul (s.2.1-s.1.1) (t.2.2-t.1.2)
 have m2:=sgn_mul (s.2.2-s.1.2) (t.2.1-t.1.1)
 have w5:IntKind.i64.wrap (sgnI (s.2.1-s.1.1) * sgnI (t.2.2-t.1.2)-sgnI (s.2.2-s.1.2) * sgnI (t.2.1-t.1.1))=turnI s t:=wrap64 (by omega) (by omega)
 unfold sgnI at m1 m2 w5
 rw [pureCall_fn F61 rfl]
 simp -implicitDefEqProofs [r61,p61,w1,w2,w3,w4,min_int,max_int,m1.1,m2.1,w5]
def folF (s:Sd):Nat→List Sd→Int→Int
 | _,[],o=>o
 | i,t :: r,o=>folF s (i+1) r (if t.1=s.2∧(o<0∨0<turnI s t) then (i:Int) else o)
theorem fol_pick (l:List Sd) (s:Sd):∀ (r:List Sd) (i:Nat) (o:Int),l.drop i=r →
  folF s i r o=match (List.range' i r.length).filter (fun k=>decide ((gtS l k).1=s.2)) with
   | []=>o
   | k :: F=>((pickI l s (k :: F) (if o<0 then k else o.toNat):Nat):Int)
 | [],i,o,_=>rfl
 | t :: r,i,o,hd=>by
  have hi:i<l.length:=by
   by_cases q:i<l.length
   ·exact q
   ·rw [List.drop_eq_nil_of_le (by omega)] at hd;cases hd
  have e0:=List.drop_eq_getElem_cons hi
  rw [hd] at e0
  obtain ⟨e1,e2⟩:=List.cons.inj e0
  have eg:gtS l i=t:=by rw [Rg.gt_get hi,e1]
  show folF s (i+1) r (if t.1=s.2∧(o<0∨0<turnI s t) then (i:Int) else o)=_
  rw [fol_pick l s r (i+1) _ e2.symm]
  show _=match (List.range' i (r.length+1)).filter (fun k=>decide ((gtS l k).1=s.2)) with
   | []=>o
   | k :: F=>((pickI l s (k :: F) (if o<0 then k else o.toNat):Nat):Int)
  rw [List.range'_succ]
  by_cases h1:t.1=s.2
  ·rw [List.filter_cons_of_pos (by rw [eg];exact decide_eq_true h1)]
   have ep:∀ (F:List Nat) (c:Nat),pickI l s (i :: F) c=pickI l s F (if 0<turnI s t then i else c):=fun F c=>by rw [← eg];rfl
   generalize (List.range' (i+1) r.length).filter (fun k=>decide ((gtS l k).1=s.2))=F
   simp only [ep]
   by_cases h2:o<0
   ·rw [if_pos ⟨h1,.inl h2⟩,if_pos h2,ite_self]
    cases F with
    | nil=>rfl
    | cons k F =>
     have:¬ ((i:Int)<0):=by omega
     simp only [this,if_false,Int.toNat_natCast]
   ·by_cases h3:0<turnI s t
    ·rw [if_pos ⟨h1,.inr h3⟩,if_neg h2,if_pos h3]
     cases F with
     | nil=>rfl
     | cons k F =>
      have:¬ ((i:Int)<0):=by omega
      simp only [this,if_false,Int.toNat_natCast]
    ·rw [if_neg (by rintro ⟨_,q | q⟩ <;> omega),if_neg h2,if_neg h3]
     cases F with
     | nil=>show o=((o.toNat:Nat):Int);omega
     | cons k F=>simp only [h2,if_false]
  ·rw [List.filter_cons_of_neg (by rw [eg];simpa using h1),if_neg fun q=>h1 q.1]
theorem fol_nx {l:List Sd} (hl:Net l) {i:Nat} (hi:i<l.length):folF (gtS l i) 0 l (-1)=(nxI l i:Int):=by
 rw [fol_pick l (gtS l i) l 0 (-1) rfl]
 have e:(List.range' 0 l.length).filter (fun k=>decide ((gtS l k).1=(gtS l i).2))=fromI l (gtS l i).2:=by rw [← List.range_eq_range'];rfl
 rw [e]
 have hn:=hl.next hi
 have hm:nxI l i∈fromI l (gtS l i).2:=Rg.from_mem.2 ⟨hn.1,hn.2.1⟩
 unfold nxI at hm ⊢
 generalize fromI l (gtS l i).2=F at *
 cases F with
 | nil=>cases hm
 | cons k F=>rfl
theorem follow_spec (x:Bool) (l:List Sd) (s:Sd) (hl:l.length≤1000000) (hs:nearS s) (hn:∀ t∈l,nearS t):pureCall E.P (L E) 60 [lst x (sideR.vals l),.agg ⟨[.int .i64 s.1.1,.int .i64 s.1.2,.int .i64 s.2.1,.int .i64 s.2.2]⟩]=some (.int .i64 (folF s 0 l (-1))):=by
 have ln:∀ h,lenT .sl h (lst x (sideR.vals l))=some (.int .i64 l.length):=fun h=>Rec.tree_len
 have ix:∀ (i:Nat) (hi:i<l.length),indexAddrT (.sl 86 ⟨some true,some 4⟩) (lst x (sideR.vals l)) (.int .i64 (i:Int))=some (cptr (sideR.val l[i])):=fun i hi=>Rec.index_tree rfl hi
 rw [pureCall_fn F60 rfl]
 generalize lst x (sideR.vals l)=V at *
 simp -implicitDefEqProofs [r60,p60,ln]
 rw [LL_for (γ:=Int) l (-1) (fun i o=>[(5,.int .i64 o),(6,.int .i64 i)]) (fun _ _=>[.cells 86 [.int .i64 s.1.1,.int .i64 s.1.2,.int .i64 s.2.1,.int .i64 s.2.2] 0]) (fun i rest o=>(.exit 0,[(5,.int .i64 (folF s i rest o)),(6,undef)],[.cells 86 [.int .i64 s.1.1,.int .i64 s.1.2,.int .i64 s.2.1,.int .i64 s.2.2] 0])) (fun _ _=>True) (by omega) trivial]
 ·simp -implicitDefEqProofs [k60_3]
 ·simp -implicitDefEqProofs [k60_3]
 ·rfl
 ·intro nx i o hi _
  have e0:folF s i [] o=o:=rfl
  rw [e0]
  simp -implicitDefEqProofs [r60_3,k60_3,ln,hi,trim_le]
 ·intro nx i t rest o hi hv hd hw _ ih
  have ixi:=ix i hi
  rw [hv,side_val] at ixi
  have ht:nearS t:=hn t (by rw [← hv];exact List.getElem_mem hi)
  have tt:=turn7_spec s t hs ht
  have e1:folF s i (t :: rest) o=folF s (i+1) rest (if t.1=s.2∧(o<0∨0<turnI s t) then (i:Int) else o):=rfl
  have eq:=eql_point t.1 s.2
  have ih1:=ih (i:Int) trivial
  have ih2:=ih o trivial
  rw [e1]
  simp -implicitDefEqProofs [k60_3] at ih1 ih2
  by_cases h1:s.2=t.1
  ·have h1':=h1.symm
   rw [decide_eq_true h1] at eq
   by_cases h2:o<0
   ·rw [if_pos ⟨h1',.inl h2⟩]
    simp -implicitDefEqProofs [r60_3,k60_3,ln,hi,ixi,eq,h2,hw,trim_le]
    exact ih1
   ·by_cases h3:0<turnI s t
    ·rw [if_pos ⟨h1',.inr h3⟩]
     simp -implicitDefEqProofs [r60_3,k60_3,ln,hi,ixi,eq,h2,ret0 m61,tt,h3,hw,trim_le]
     exact ih1
    ·rw [if_neg (by rintro ⟨_,q | q⟩ <;> omega)]
     simp -implicitDefEqProofs [r60_3,k60_3,ln,hi,ixi,eq,h2,ret0 m61,tt,h3,hw,trim_le]
     exact ih2
  ·have h1':¬ t.1=s.2:=fun e=>h1 e.symm
   rw [decide_eq_false h1] at eq
   rw [if_neg fun q=>h1' q.1]
   by_cases h2:o<0
   ·simp -implicitDefEqProofs [r60_3,k60_3,ln,hi,ixi,eq,h2,hw,trim_le]
    exact ih2
   ·simp -implicitDefEqProofs [r60_3,k60_3,ln,hi,ixi,eq,h2,ret0 m61,tt,hw,trim_le]
    exact ih2
open Rg (Rect Pt Sd cell sortU botR topR bdH xsB yAll colQ refS)
def gQ (a:List Rect) (x:Int) (w:Int × Int):List Sd:=(if (cell a (x-1) w.1 && !cell a x w.1)=true then [((x,w.1),(x,w.2))] else [])++(if (cell a x w.1 && !cell a (x-1) w.1)=true then [((x,w.2),(x,w.1))] else [])
theorem colQ_zip (a:List Rect) (x:Int):∀ ys:List Int,colQ a x ys=(ys.zip ys.tail).flatMap (gQ a x)
 | []=>rfl
 | [_]=>rfl
 | u :: v :: ys=>by
  have ih:=colQ_zip a x (v :: ys)
  show _++(_++colQ a x (v :: ys))=_
  rw [ih,← List.append_assoc]
  rfl
theorem gQ_len (a:List Rect) (x:Int) (w:Int × Int):(gQ a x w).length≤1:=by
 unfold gQ
 cases cell a (x-1) w.1 <;> cases cell a x w.1 <;> simp
theorem gQs_len (a:List Rect) (x:Int):∀ Z:List (Int × Int),(Z.flatMap (gQ a x)).length≤Z.length
 | []=>Nat.le_refl _
 | w :: Z=>by
  have h1:=gQ_len a x w
  have h2:=gQs_len a x Z
  rw [List.flatMap_cons,List.length_append,List.length_cons];omega
theorem zip_len (ys:List Int):(ys.zip ys.tail).length=ys.length-1:=by
 rw [List.length_zip,List.length_tail];omega
theorem zip_at (ys:List Int) {j:Nat} (h:j<(ys.zip ys.tail).length):∃ (h1:j<ys.length) (h2:j+1<ys.length),(ys.zip ys.tail)[j]=(ys[j],ys[j+1]):=by
 have:=zip_len ys
 refine ⟨by omega,by omega,?_⟩
 rw [List.getElem_zip,List.getElem_tail]
theorem lit7_2 (h:Heap) (a b c d a' b' c' d':Int):buildSliceT (some ⟨86,4,32,.agg ⟨[.int .i64 0,.int .i64 0,.int .i64 0,.int .i64 0]⟩,⟨some true,some 4⟩⟩) false h 2 #[(0,.agg ⟨[.int .i64 a,.int .i64 b,.int .i64 c,.int .i64 d]⟩),(1,.agg ⟨[.int .i64 a',.int .i64 b',.int .i64 c',.int .i64 d']⟩)]=some (lst true [.agg ⟨[.int .i64 a,.int .i64 b,.int .i64 c,.int .i64 d]⟩,.agg ⟨[.int .i64 a',.int .i64 b',.int .i64 c',.int .i64 d']⟩],h) :=
 (build_lit' (n:=2) (l:=[(0,.agg ⟨[.int .i64 a,.int .i64 b,.int .i64 c,.int .i64 d]⟩),(1,.agg ⟨[.int .i64 a',.int .i64 b',.int .i64 c',.int .i64 d']⟩)]) rfl rfl (by decide) (by decide) (by decide)).trans rfl
theorem lit7_1 (h:Heap) (a b c d:Int):buildSliceT (some ⟨86,4,32,.agg ⟨[.int .i64 0,.int .i64 0,.int .i64 0,.int .i64 0]⟩,⟨some true,some 4⟩⟩) false h 1 #[(0,.agg ⟨[.int .i64 a,.int .i64 b,.int .i64 c,.int .i64 d]⟩)]=some (lst true [.agg ⟨[.int .i64 a,.int .i64 b,.int .i64 c,.int .i64 d]⟩],h) :=
 (build_lit' (n:=1) (l:=[(0,.agg ⟨[.int .i64 a,.int .i64 b,.int .i64 c,.int .i64 d]⟩)]) rfl rfl (by decide) (by decide) (by decide)).trans rfl
def el7:El:=⟨86,4,32,.agg ⟨[.int .i64 0,.int .i64 0,.int .i64 0,.int .i64 0]⟩,⟨some true,some 4⟩⟩
theorem z7:szOf E.P 86=some 4:=by kernel_rfl
theorem a7:aggT E.P 86=some true:=by kernel_rfl
def row7s (c:List Sd):AObj:=sideR.row 86 c
theorem row7s_bel {n:Nat} {c:List Sd}:belowO n (row7s c)=true:=Rec.row_bel _
theorem app7_2 (c:List Sd) (s t:Sd) (r:Heap) (lo:Nat) (hlo:lo=0) (hc:c.length≤1000000):appendT (some ⟨86,4,32,.agg ⟨[.int .i64 0,.int .i64 0,.int .i64 0,.int .i64 0]⟩,⟨some true,some 4⟩⟩) (row7s c :: r) lo false (sideR.sl 0 c) (lst true [.agg ⟨[.int .i64 s.1.1,.int .i64 s.1.2,.int .i64 s.2.1,.int .i64 s.2.2]⟩,.agg ⟨[.int .i64 t.1.1,.int .i64 t.1.2,.int .i64 t.2.1,.int .i64 t.2.2]⟩])=some (sideR.sl 0 (c++[s,t]),row7s (c++[s,t]) :: r):=by
 subst hlo
 exact Rec.app (R:=sideR) (el:=el7) (h:=row7s c :: r) (b:=0) (lo:=0) (m:=[s,t]) (u:=lst true (sideR.vals [s,t])) rfl rfl (Rec.cells_tree (R:=sideR) rfl _) (Nat.le_refl _) (by show (_+2) * 32≤2 ^ 47;omega)
theorem app7_1 (c:List Sd) (s:Sd) (r:Heap) (lo:Nat) (hlo:lo=0) (hc:c.length≤1000000):appendT (some ⟨86,4,32,.agg ⟨[.int .i64 0,.int .i64 0,.int .i64 0,.int .i64 0]⟩,⟨some true,some 4⟩⟩) (row7s c :: r) lo false (sideR.sl 0 c) (lst true [.agg ⟨[.int .i64 s.1.1,.int .i64 s.1.2,.int .i64 s.2.1,.int .i64 s.2.2]⟩])=some (sideR.sl 0 (c++[s]),row7s (c++[s]) :: r):=by
 subst hlo
 exact Rec.app (R:=sideR) (el:=el7) (h:=row7s c :: r) (b:=0) (lo:=0) (m:=[s]) (u:=lst true (sideR.vals [s])) rfl rfl (Rec.cells_tree (R:=sideR) rfl _) (Nat.le_refl _) (by show (_+1) * 32≤2 ^ 47;omega)
set_option maxHeartbeats 4000000 in
theorem sides_spec (k:Option Bool) (a:List Rect) (hk:Rec.Ok k a) (ha:a.length≤200) (hx:∀ x∈xsB a,0≤x∧x≤1048576):pureCall E.P (L E) 42 [rectR.o k a]=some (lst false (sideR.vals (refS a))):=by
 have bA:∀ d n,below (d+1) n (rectR.o k a)=true:=fun d n=>Rec.o_bel
 have lA:∀ h,lenT .sl h (rectR.o k a)=some (.int .i64 a.length):=fun h=>Rec.o_len hk
 have ix:∀ (i:Nat) (hi:i<a.length),indexAddrT (.sl 39 ⟨some true,some 4⟩) (rectR.o k a) (.int .i64 (i:Int))=some (cptr (rectR.val a[i])):=fun i hi=>Rec.o_index (R:=rectR) rfl hk hi
 have rA:∀ h,reify E.P 8 h (rectR.o k a)=some (rectR.o k a):=fun _=>Rec.o_reify
 have hh:=fun x y=>has7_spec k a x y hk (by omega)
 rw [pureCall_fn F42 rfl]
 generalize hVA:rectR.o k a=VA at *
 simp -implicitDefEqProofs [r42,p42,prep_new,newK_nil z7,newK_nil s3]
 rw [LL_for (γ:=List Sd × List Int × List Int) a ([],[],[]) (fun i c=>[(3,sideR.sl 0 c.1),(4,intR.sl 1 c.2.1),(5,intR.sl 2 c.2.2),(6,.int .i64 i)]) (fun _ c=>[row7s c.1,intR.row 3 c.2.1,intR.row 3 c.2.2])
  (fun _ rest c=>(.exit 0,[(3,sideR.sl 0 (c.1++bdH rest)),(4,intR.sl 1 (c.2.1++xsL rest)),(5,intR.sl 2 (c.2.2++yL rest)),(6,undef)],[row7s (c.1++bdH rest),intR.row 3 (c.2.1++xsL rest),intR.row 3 (c.2.2++yL rest)]))
  (fun i c=>c.1.length=2 * i∧c.2.1.length=2 * i∧c.2.2.length=2 * i) (by omega) ⟨rfl,rfl,rfl⟩]
 ·simp only [List.nil_append]
  have exs:xsB a=sortU (xsL a):=rfl
  have eys:yAll a=sortU (yL a):=rfl
  have lx:=xsL_len a
  have ly:=yL_len a
  have so1:=sorted7_spec (xsL a) (by omega)
  have so2:=sorted7_spec (yL a) (by omega)
  rw [← exs] at so1
  rw [← eys] at so2
  have lU:(xsB a).length≤400:=by have:=Rg.sortU_le (xsL a);rw [exs];omega
  have lW:(yAll a).length≤400:=by have:=Rg.sortU_le (yL a);rw [eys];omega
  have lB:=bdH_len a
  obtain ⟨O1,b1,fz1⟩:∃ O1,(∀ n,belowO n O1=true)∧freezeV E.P depth 0 [row7s (bdH a),intR.row 3 (xsL a),intR.row 3 (yL a)] (intR.sl 1 (xsL a))=some (iT (xsL a),[row7s (bdH a),O1,intR.row 3 (yL a)]):=by
   have fz:=int_freezeE (h:=[row7s (bdH a),intR.row 3 (xsL a),intR.row 3 (yL a)]) (lo:=0) (b:=1) (l:=xsL a) rfl (Nat.zero_le _)
   by_cases q:(xsL a).length=0
   ·rw [if_pos q] at fz;exact ⟨_,fun _=>Rec.row_bel _,fz⟩
   ·rw [if_neg q] at fz;exact ⟨.dead,fun _=>rfl,fz⟩
  obtain ⟨O2,b2,fz2⟩:∃ O2,(∀ n,belowO n O2=true)∧freezeV E.P depth 0 [row7s (bdH a),O1,intR.row 3 (yL a)] (intR.sl 2 (yL a))=some (iT (yL a),[row7s (bdH a),O1,O2]):=by
   have fz:=int_freezeE (h:=[row7s (bdH a),O1,intR.row 3 (yL a)]) (lo:=0) (b:=2) (l:=yL a) rfl (Nat.zero_le _)
   by_cases q:(yL a).length=0
   ·rw [if_pos q] at fz;exact ⟨_,fun _=>Rec.row_bel _,fz⟩
   ·rw [if_neg q] at fz;exact ⟨.dead,fun _=>rfl,fz⟩
  have eR:refS a=bdH a++(xsB a).flatMap fun x=>((yAll a).zip (yAll a).tail).flatMap (gQ a x):=by
   show bdH a++(xsB a).flatMap (fun x=>colQ a x (yAll a))=_
   simp only [colQ_zip]
  rw [eR]
  have sx:=iT_set (xsL a)
  have sy:=iT_set (yL a)
  have bx:∀ d n,below (d+1) n (iT (xsL a))=true:=fun d n=>iT_bel
  have bY:∀ d n,below (d+1) n (iT (yL a))=true:=fun d n=>iT_bel
  have Uln:∀ h,lenT .sl h (iO (xsB a))=some (.int .i64 (xsB a).length):=fun h=>iO_len
  have Uix:∀ (i:Nat) (hi:i<(xsB a).length),indexAddrT (.sl 3 ⟨some false,some 1⟩) (iO (xsB a)) (.int .i64 (i:Int))=some (cptr (.int .i64 (xsB a)[i])):=fun i hi=>iO_index hi
  have Ubl:∀ d n,below (d+1) n (iO (xsB a))=true:=fun d n=>iO_bel
  have Wln:∀ h,lenT .sl h (iO (yAll a))=some (.int .i64 (yAll a).length):=fun h=>iO_len
  have Wix:∀ (i:Nat) (hi:i<(yAll a).length),indexAddrT (.sl 3 ⟨some false,some 1⟩) (iO (yAll a)) (.int .i64 (i:Int))=some (cptr (.int .i64 (yAll a)[i])):=fun i hi=>iO_index hi
  have Wbl:∀ d n,below (d+1) n (iO (yAll a))=true:=fun d n=>iO_bel
  have zl:=zip_len (yAll a)
  have za:=fun {j} h=>zip_at (yAll a) (j:=j) h
  clear exs eys eR
  generalize xsL a=xL at *
  generalize yL a=yLL at *
  generalize xsB a=U at *
  generalize yAll a=W at *
  generalize iO U=UV at *
  generalize iO W=WV at *
  generalize iT xL=XT at *
  generalize iT yLL=YT at *
  generalize bdH a=H at *
  simp -implicitDefEqProofs [k42_5,prep_frz,fz1,fz2,ret1 m22,sx,sy,so1,so2]
  generalize hz:W.zip W.tail=Z at *
  rw [LL_for (γ:=List Sd) U H (fun i c=>[(3,sideR.sl 0 c),(8,.int .i64 i)]) (fun _ c=>[row7s c,O1,O2])
   (fun _ rest c=>(.exit 2,[(3,sideR.sl 0 (c++rest.flatMap fun x=>Z.flatMap (gQ a x))),(8,undef)],[row7s (c++rest.flatMap fun x=>Z.flatMap (gQ a x)),O1,O2])) (fun i c=>c.length≤400+400 * i) (by omega) (by omega)]
  ·have rr:=Rec.reifyR_row (R:=sideR) (P:=E.P) (h:=[row7s (H++U.flatMap fun x=>Z.flatMap (gQ a x)),O1,O2]) (b:=0) (t:=86) (l:=H++U.flatMap fun x=>Z.flatMap (gQ a x)) rfl z7 a7
   simp -implicitDefEqProofs [k42_14,rr]
  ·simp -implicitDefEqProofs [k42_14]
  ·rfl
  ·intro nx i c hi _
   simp -implicitDefEqProofs [r42_14,k42_14,Uln,hi,trim_le]
  ·intro nx i x rest c hi hv hd hw hc ih
   have px:=Uix i hi
   rw [hv] at px
   have hxx:=hx x (by rw [← hv];exact List.getElem_mem hi)
   have wx:IntKind.i64.wrap (x-1)=x-1:=wrap64 (by omega) (by omega)
   rw [List.flatMap_cons,← List.append_assoc]
   have ih:=fun h=>ih (c++Z.flatMap (gQ a x)) h
   simp -implicitDefEqProofs [k42_14,-List.append_assoc] at ih
   simp -implicitDefEqProofs [r42_14,k42_14,Uln,hi,-List.append_assoc]
   rw [LL_for (γ:=List Sd) Z c (fun j c=>[(3,sideR.sl 0 c),(9,.int .i64 j)]) (fun _ c=>[row7s c,O1,O2])
    (fun _ rest c=>(.exit 4,[(3,sideR.sl 0 (c++rest.flatMap (gQ a x))),(9,undef)],[row7s (c++rest.flatMap (gQ a x)),O1,O2])) (fun j c=>c.length≤400+400 * i+j) (by omega) (by omega)]
   ·simp -implicitDefEqProofs [k42_17,hw,trim_le,-List.append_assoc]
    refine ih ?_
    have:=gQs_len a x Z
    rw [List.length_flatMap] at this
    omega
   ·simp -implicitDefEqProofs [k42_17]
   ·rfl
   ·intro nx2 j c hj _
    have hjn:¬ (((j+1:Nat):Int)<(W.length:Int)):=by omega
    have wj:IntKind.i64.wrap ((j:Int)+1)=((j+1:Nat):Int):=(wrap64 (by omega) (by omega)).trans (by omega)
    simp -implicitDefEqProofs [r42_17,k42_17,Wln,wj,hjn,trim_le,-Int.natCast_add]
   ·intro nx2 j w rest2 c hj hv2 hd2 hw2 hc2 ih2
    obtain ⟨u,v⟩:=w
    obtain ⟨g1,g2,g3⟩:=za hj
    rw [hv2] at g3
    obtain ⟨g4,g5⟩:=Prod.mk.inj g3
    have hjn:(((j+1:Nat):Int)<(W.length:Int)):=by omega
    have wj:IntKind.i64.wrap ((j:Int)+1)=((j+1:Nat):Int):=(wrap64 (by omega) (by omega)).trans (by omega)
    have ya:=Wix j g1
    have yb:=Wix (j+1) g2
    rw [← g4] at ya
    rw [← g5] at yb
    have hL:=hh (x-1) u
    have hR:=hh x u
    have ih2:=ih2 (c++gQ a x (u,v)) (by have:=gQ_len a x (u,v);rw [List.length_append];omega)
    rw [List.flatMap_cons,← List.append_assoc]
    have eg:gQ a x (u,v)=(if (cell a (x-1) u && !cell a x u)=true then [((x,u),(x,v))] else [])++(if (cell a x u && !cell a (x-1) u)=true then [((x,v),(x,u))] else []):=rfl
    rw [eg] at ih2 ⊢
    clear eg
    have p1:=fun R lo hlo=>app7_1 c ((x,u),(x,v)) R lo hlo (by omega)
    have p2:=fun R lo hlo=>app7_1 c ((x,v),(x,u)) R lo hlo (by omega)
    generalize cell a (x-1) u=cl at *
    generalize cell a x u=cr at *
    simp -implicitDefEqProofs [k42_17,-List.append_assoc,-Int.natCast_add] at ih2
    cases cl <;> cases cr <;> simp -implicitDefEqProofs [-List.append_assoc,-Int.natCast_add] at ih2
    all_goals simp -implicitDefEqProofs [r42_17,k42_17,Wln,Uln,wj,hjn,px,ya,yb,wx,bPt,bSd,ret0 m59,rA,hL,hR,lit7_1,p1,p2,trim_cut,bA,Rec.sl_bel,Rec.row_bel,row7s_bel,b1,b2,Ubl,Wbl,bx,bY,hw2,-List.append_assoc,-Int.natCast_add]
    all_goals exact ih2
 ·simp -implicitDefEqProofs [k42_5,Rec.sl_nil]
 ·rfl
 ·intro nx i c hi _
  have e1:bdH []=[]:=rfl
  have e2:xsL []=[]:=rfl
  have e3:yL []=[]:=rfl
  simp -implicitDefEqProofs [r42_5,k42_5,lA,hi,e1,e2,e3,trim_le]
 ·intro nx i r rest c hi hv hd hw hc ih
  obtain ⟨S,X,Y⟩:=c
  obtain ⟨c1,c2,c3⟩:=hc
  simp only at c1 c2 c3 ih ⊢
  have ixi:=ix i hi
  rw [hv,rect_val] at ixi
  have e1:bdH (r :: rest)=[botR r,topR r]++bdH rest:=rfl
  have e2:xsL (r :: rest)=[r.x0,r.x1]++xsL rest:=rfl
  have e3:yL (r :: rest)=[r.y0,r.y1]++yL rest:=rfl
  rw [e1,e2,e3,← List.append_assoc,← List.append_assoc,← List.append_assoc]
  have ih:=ih (S++[botR r,topR r],X++[r.x0,r.x1],Y++[r.y0,r.y1]) ⟨by simp [c1];omega,by simp [c2];omega,by simp [c3];omega⟩
  have p1:=fun R lo hlo=>app7_2 S (botR r) (topR r) R lo hlo (by omega)
  unfold botR topR at p1 ih ⊢
  have p2:=fun h (q:h[1]?=some (intR.row 3 X))=>app_two' (h:=h) (b:=1) (lo:=0) (c:=X) r.x0 r.x1 q (Nat.zero_le _) (by omega)
  have p3:=fun h (q:h[2]?=some (intR.row 3 Y))=>app_two' (h:=h) (b:=2) (lo:=0) (c:=Y) r.y0 r.y1 q (Nat.zero_le _) (by omega)
  simp -implicitDefEqProofs [k42_5,-List.append_assoc] at ih
  simp -implicitDefEqProofs [r42_5,k42_5,lA,hi,ixi,bPt,bSd,lit7_2,lit_ints2,p1,p2,p3,hw,trim_cut,bA,Rec.sl_bel,Rec.row_bel,row7s_bel,-List.append_assoc]
  exact ih
end Go.Proofs.YtnhdabelepjgbaaGreat.Bm
namespace Go.Proofs.YtnhdabelepjgbaaGreat.Rg
def fstF (P:List Pt):Nat→List Pt→Nat→Nat
 | _,[],f=>f
 | k,v :: r,f=>fstF P (k+1) r (if ltPo v (P.getD f (0,0))=true then k else f)
theorem fst_told (a:Pt) (l:List Pt):∀ (r:List Pt) (k f:Nat),l.drop k=r→k≤l.length→f≤k→(a :: l).getD f (0,0)=minP a (l.take k)→(∀ j,j<f→(a :: l).getD j (0,0)≠minP a (l.take k)) →
  fstF (a :: l) (k+1) r f≤l.length∧(a :: l).getD (fstF (a :: l) (k+1) r f) (0,0)=minP a l∧∀ j,j<fstF (a :: l) (k+1) r f→(a :: l).getD j (0,0)≠minP a l
 | [],k,f,hd,hk,hf,h1,h2=>by
  have e:l.take k=l:=by
   rw [List.take_of_length_le]
   have:=congrArg List.length hd
   rw [List.length_drop] at this
   simp at this;omega
  rw [e] at h1 h2
  exact ⟨by show f≤_;omega,h1,h2⟩
 | v :: r,k,f,hd,hk,hf,h1,h2=>by
  have hk':k<l.length:=by
   by_cases q:k<l.length
   ·exact q
   ·rw [List.drop_eq_nil_of_le (by omega)] at hd;cases hd
  have e0:=List.drop_eq_getElem_cons hk'
  rw [hd] at e0
  obtain ⟨e1,e2⟩:=List.cons.inj e0
  have et:l.take (k+1)=l.take k++[v]:=by rw [List.take_add_one,List.getElem?_eq_getElem hk',e1];rfl
  have em:minP a (l.take (k+1))=if ltPo v (minP a (l.take k))=true then v else minP a (l.take k):=by rw [et,minP_snoc]
  show fstF (a :: l) (k+1+1) r (if ltPo v ((a :: l).getD f (0,0))=true then k+1 else f)≤_∧(a :: l).getD (fstF (a :: l) (k+1+1) r (if ltPo v ((a :: l).getD f (0,0))=true then k+1 else f)) (0,0)=_∧∀ j,j<fstF (a :: l) (k+1+1) r (if ltPo v ((a :: l).getD f (0,0))=true then k+1 else f)→_
  rw [h1]
  by_cases q:ltPo v (minP a (l.take k))=true
  ·rw [if_pos q] at em ⊢
   refine fst_told a l r (k+1) (k+1) e2.symm (by omega) (Nat.le_refl _) ?_ fun j hj=>?_
   ·rw [em,List.getD_cons_succ,List.getD_eq_getElem?_getD,List.getElem?_eq_getElem hk',e1];rfl
   ·rw [em]
    intro e
    have hm:=minP_told (l.take k) a
    have:ltPo v v=true:=by
     have key:ltPo v (minP a (l.take k))=true:=q
     cases j with
     | zero =>
      have e:a=v:=e
      have:=hm.2.1
      rw [e] at this
      rw [e] at key
      rw [this] at key;cases key
     | succ j =>
      have hjk:j<(l.take k).length:=by rw [List.length_take];omega
      have e:l.getD j (0,0)=v:=by rw [List.getD_cons_succ] at e;exact e
      have hjm:v∈l.take k:=by
       rw [← e,List.getD_eq_getElem?_getD,List.getElem?_eq_getElem (by omega)]
       have:=List.getElem_mem hjk
       rw [List.getElem_take] at this
       exact this
      have:=hm.2.2 v hjm
      rw [this] at key;cases key
    rw [ltP_irr] at this;cases this
  ·rw [if_neg q] at em ⊢
   refine fst_told a l r (k+1) f e2.symm (by omega) (by omega) (by rw [em];exact h1) fun j hj=>by rw [em];exact h2 j hj
theorem fst_rot (a:Pt) (l:List Pt):fstF (a :: l) 1 l 0<(a :: l).length∧(a :: l).drop (fstF (a :: l) 1 l 0)++(a :: l).take (fstF (a :: l) 1 l 0)=rotM (a :: l):=by
 obtain ⟨h1,h2,h3⟩:=fst_told a l l 0 0 rfl (Nat.zero_le _) (Nat.le_refl _) rfl fun j hj=>absurd hj (Nat.not_lt_zero _)
 have h1:fstF (a :: l) 1 l 0≤l.length:=h1
 have hl:fstF (a :: l) 1 l 0<(a :: l).length:=by rw [List.length_cons];omega
 have ge:∀ j (h:j<(a :: l).length),(a :: l).getD j (0,0)=(a :: l)[j]:=fun j h=>by rw [List.getD_eq_getElem?_getD,List.getElem?_eq_getElem h];rfl
 refine ⟨hl,rot_at hl (by rw [← ge _ hl];exact h2) fun j h=>?_⟩
 have:=h3 j h
 rw [ge j (by omega)] at this
 exact this
section
variable {l:List Sd} (hl:Net l)
include hl
theorem clo_none:Clo l.length (nxI l) (List.replicate l.length false):=by
 have hi:=hl.inj
 refine ⟨List.length_replicate,fun i h=>?_⟩
 have h2:=hi.lt i h
 simp [List.getElem?_replicate,h,h2]
theorem clo_step {d:List Bool} {i:Nat} (hd:Clo l.length (nxI l) d) (hi:i<l.length) (h:d[i]?=some false) :
  Clo l.length (nxI l) (trc (nxI l) (l.length+1) d i).1∧cornF l (trc (nxI l) (l.length+1) d i).2≠[]∧Loop (rotM (cornF l (trc (nxI l) (l.length+1) d i).2)):=by
 have hf:=hl.inj
 obtain ⟨c1,c2,c3,c4⟩:=trc_way hf hd (l.length+1) d [] i ⟨fun j hj=>absurd hj List.not_mem_nil,List.nodup_nil,fun j hj=>absurd hj (Nat.not_lt_zero _),fun hj=>absurd hj (Nat.lt_irrefl _),hi,fun j _=>by simp,hd.len,fun j hj=>absurd hj List.not_mem_nil⟩ (by have:=freeN_le d;rw [hd.len] at this;omega) (.inr h)
 simp only [List.nil_append] at c1 c2 c4
 have hc:(trc (nxI l) (l.length+1) d i).2≠[]:=by
  show (if d[i]?=some false then _ else _:List Bool × List Nat).2≠_
  rw [if_pos h];simp
 have hp:=loop_told hl c1 hc
 refine ⟨⟨c3,fun j hj=>by rw [c2 j hj,c2 _ (hf.lt j hj),hd.fwd j hj,c1.clo hf j hj]⟩,fun e=>?_,hp⟩
 have:=hp.len
 rw [e] at this
 have e2:rotM []=[]:=rfl
 rw [e2] at this
 simp at this
theorem clo_skip {d:List Bool} {i:Nat} (h:d[i]?=some true):trc (nxI l) (l.length+1) d i=(d,[]):=by
 have _:=hl
 show (if d[i]?=some false then _ else _:List Bool × List Nat)=_
 rw [if_neg (by rw [h];simp)]
end
end Go.Proofs.YtnhdabelepjgbaaGreat.Rg
