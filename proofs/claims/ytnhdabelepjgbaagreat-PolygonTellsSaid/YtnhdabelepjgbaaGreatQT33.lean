/-
 Chapter 07: the statement on the reference, walked. Conditions: none.
-/
import Derived.Test.YtnhdabelepjgbaaGreatQT30
import Derived.Test.YtnhdabelepjgbaaGreatQT23
import Derived.Test.YtnhdabelepjgbaaGreatQT20
import Derived.Test.YtnhdabelepjgbaaGreatQT24
import Derived.Test.YtnhdabelepjgbaaGreatQT28
import Derived.Test.YtnhdabelepjgbaaGreatQT31
import Derived.Test.YtnhdabelepjgbaaGreatQT32
namespace Go.Proofs.YtnhdabelepjgbaaGreat.Bm
open Go Go.RowKit
open Rg (Rect Slab Pt sidesP upS hB ysP colY polyL rightP sortU stripL outT emit pairs ends in7 rows7)
set_option maxHeartbeats 4000000 in
theorem rows7_spec (x:Bool) (p:List Pt) (v:Int) (hp:p.length≤1000):pureCall E.P (L E) 23 [lst x (spanR.vals p),.int .i64 v]=some (iO (sortU (rows7 p v))):=by
 have ln:∀ h,lenT .sl h (lst x (spanR.vals p))=some (.int .i64 p.length):=fun h=>Rec.tree_len
 have bP:∀ d n,below (d+1) n (lst x (spanR.vals p))=true:=fun d n=>rfl
 have pix:=fun j hj=>pt_index x p j hj
 rw [pureCall_fn F23 rfl]
 generalize hPV:lst x (spanR.vals p)=PV at *
 have hsl:=Rg.sides_len p
 have hrl:(rows7 p v).length≤p.length:=by
  unfold rows7
  rw [List.length_map,← hsl]
  exact List.length_filter_le _ _
 simp -implicitDefEqProofs [r23,p23,prep_new,newK_nil s3]
 rw [LL_for (γ:=List Int) (sidesP p) [] (fun i c=>[(5,intR.sl 0 c),(6,.int .i64 i)]) (fun _ c=>[intR.row 3 c])
  (fun _ rest c=>(.exit 0,[(5,intR.sl 0 (c++(rest.filter (in7 v)).map (fun s=>s.1.2))),(6,undef)],[intR.row 3 (c++(rest.filter (in7 v)).map (fun s=>s.1.2))])) (fun i c=>c.length≤i) (by omega) (Nat.le_refl _)]
 ·have er:((sidesP p).filter (in7 v)).map (fun s=>s.1.2)=rows7 p v:=rfl
  rw [List.nil_append,er]
  have fz:=int_freezeE (h:=[intR.row 3 (rows7 p v)]) (lo:=0) (b:=0) (l:=rows7 p v) rfl (Nat.le_refl _)
  have so:=sorted7_spec (rows7 p v) (by omega)
  generalize rows7 p v=l at *
  have rr:reifyR E.P (if l.length=0 then [intR.row 3 l] else [intR.row 3 l].set 0 .dead) (iO (sortU l))=some (iO (sortU l)):=iO_reifyR _ _
  generalize (if l.length=0 then [intR.row 3 l] else [intR.row 3 l].set 0 .dead)=G at *
  simp -implicitDefEqProofs [k23_3,prep_frz,fz,ret1 m22,iT_set,so,rr]
 ·simp -implicitDefEqProofs [k23_3,Rec.sl_nil]
 ·rfl
 ·intro nx i c hi _
  rw [hsl] at hi
  simp -implicitDefEqProofs [r23_3,k23_3,hi,ln,trim_le]
 ·intro nx i s rest c hi hv hd hw hc ih
  have hip:i<p.length:=by omega
  have hip':(i:Int)<(p.length:Int):=by omega
  have hm:(i+1) % p.length<p.length:=Nat.mod_lt _ (by omega)
  have es:=Rg.sides_get hip
  rw [hv] at es
  have e1:p.getD i (0,0)=s.1:=by rw [es,List.getD_eq_getElem?_getD,List.getElem?_eq_getElem hip];rfl
  have e2:p.getD ((i+1) % p.length) (0,0)=s.2:=by rw [es,List.getD_eq_getElem?_getD,List.getElem?_eq_getElem hm];rfl
  have i1:=pix i hip
  have i2:=pix _ hm
  rw [e1,span_val] at i1
  rw [e2,span_val] at i2
  have wi:IntKind.i64.wrap ((i:Int)+1)=((i+1:Nat):Int):=(wrap64 (by omega) (by omega)).trans (by omega)
  have rm:=rem_nat (P:=E.P) (t:=3) (m:=i+1) (n:=p.length) (by omega)
  clear es e1 e2 hm
  generalize (i+1) % p.length=j at i2 rm
  have keep:in7 v s=false→c++((s :: rest).filter (in7 v)).map (fun s=>s.1.2)=c++(rest.filter (in7 v)).map (fun s=>s.1.2):=fun h=>by rw [List.filter_cons_of_neg (by rw [h];exact Bool.false_ne_true)]
  have take:in7 v s=true→c++((s :: rest).filter (in7 v)).map (fun s=>s.1.2)=c++[s.1.2]++(rest.filter (in7 v)).map (fun s=>s.1.2):=fun h=>by rw [List.filter_cons_of_pos h,List.map_cons,List.append_assoc];rfl
  have ein:in7 v s=(decide (s.1.2=s.2.2) && (decide (min s.1.1 s.2.1≤v) && decide (v<max s.1.1 s.2.1))):=rfl
  obtain ⟨⟨a,b⟩,u,w⟩:=s
  simp only at i1 i2 ein take
  have ihc:=ih c (by omega)
  have ihs:=ih (c++[b]) (by rw [List.length_append];show c.length+1≤_;omega)
  simp -implicitDefEqProofs [k23_3,-Int.natCast_add,-List.append_assoc] at ihc ihs
  by_cases q1:b=w
  case neg =>
   rw [keep (by rw [ein,decide_eq_false q1];rfl)]
   simp -implicitDefEqProofs [r23_3,k23_3,hip,hip',ln,i1,i2,wi,rm,q1,trim_cut,bP,Rec.sl_bel,Rec.row_bel,-Int.natCast_add,-List.append_assoc]
   exact ihc
  subst q1
  by_cases q2:min a u≤v
  case neg =>
   rw [keep (by rw [ein,decide_eq_false q2,Bool.false_and,Bool.and_false])]
   simp -implicitDefEqProofs [r23_3,k23_3,hip,hip',ln,i1,i2,wi,rm,min_int,q2,trim_cut,bP,Rec.sl_bel,Rec.row_bel,-Int.natCast_add,-List.append_assoc]
   exact ihc
  by_cases q3:v<max a u
  case neg =>
   rw [keep (by rw [ein,decide_eq_false q3,Bool.and_false,Bool.and_false])]
   simp -implicitDefEqProofs [r23_3,k23_3,hip,hip',ln,i1,i2,wi,rm,min_int,max_int,q2,q3,trim_cut,bP,Rec.sl_bel,Rec.row_bel,-Int.natCast_add,-List.append_assoc]
   exact ihc
  have ap:=fun h (hob:h[0]?=some (intR.row 3 c))=>app_num (h:=h) (b:=0) (lo:=0) (c:=c) b hob (Nat.zero_le _) (by omega)
  rw [take (by rw [ein,decide_eq_true rfl,decide_eq_true q2,decide_eq_true q3];rfl)]
  simp -implicitDefEqProofs [r23_3,k23_3,hip,hip',ln,i1,i2,wi,rm,min_int,max_int,q2,q3,lit_num,ap,trim_cut,bP,Rec.sl_bel,Rec.row_bel,-Int.natCast_add,-List.append_assoc]
  exact ihs
set_option maxHeartbeats 4000000 in
theorem region7_spec (x:Bool) (p:List Pt) (hp:p.length≤1000000):pureCall E.P (L E) 6 [lst x (spanR.vals p)]=some (resL (polyX p)):=by
 have ln:∀ h,lenT .sl h (lst x (spanR.vals p))=some (.int .i64 p.length):=fun h=>Rec.tree_len
 have hR:=right7_spec x p hp
 have rf:∀ h,reify E.P 8 h (lst x (spanR.vals p))=some (lst x (spanR.vals p)):=fun _=>rfl
 have sv0:settled depth (lst x (spanR.vals p))=true:=rfl
 have bP:∀ d n,below (d+1) n (lst x (spanR.vals p))=true:=fun d n=>rfl
 have pix:∀ (j:Nat) (hj:j<p.length),indexAddrT (.sl 42 ⟨some true,some 2⟩) (lst x (spanR.vals p)) (.int .i64 (j:Int))=some (cptr (spanR.val p[j])):=fun j hj=>Rec.index_tree rfl hj
 have rw7:=fun v (h:p.length≤1000)=>rows7_spec x p v h
 rw [pureCall_fn F6 rfl]
 unfold polyX
 generalize hPV:lst x (spanR.vals p)=PV at *
 cases hr:rightP p
 ·rw [hr] at hR
  simp -implicitDefEqProofs [r6,p6,ret0 m9,rf,hR,resL]
 rw [hr] at hR
 obtain ⟨hp4,hp60⟩:=Rg.rightP_len hr
 have hpo:=Rg.rightP_poly hr
 have rw7:=fun v=>rw7 v (by omega)
 simp -implicitDefEqProofs [r6,p6,ret0 m9,rf,hR,prep_new,newK_nil s3]
 rw [LL_for (γ:=List Int) p [] (fun i c=>[(4,intR.sl 0 c),(5,.int .i64 i)]) (fun _ c=>[intR.row 3 c])
  (fun _ rest c=>(.exit 0,[(4,intR.sl 0 (c++rest.map (·.1))),(5,undef)],[intR.row 3 (c++rest.map (·.1))])) (fun i c=>c.length=i) (by omega) rfl]
 ·rw [List.nil_append]
  have hxl:(p.map (·.1)).length=p.length:=List.length_map _
  have hU:(sortU (p.map (·.1))).length≤p.length:=by
   have:=Rg.sortU_le (p.map (·.1));omega
  have fz:=int_freezeE (h:=[intR.row 3 (p.map (·.1))]) (lo:=0) (b:=0) (l:=p.map (·.1)) rfl (Nat.le_refl _)
  rw [if_neg (by omega)] at fz
  have so:=sorted7_spec (p.map (·.1)) (by omega)
  have ePL:polyL p=outT (stripL (colY p) (sortU (p.map (·.1)))):=rfl
  rw [ePL]
  have hev:∀ x,(sortI (ysP p x)).length % 2=0:=fun x=>by rw [sortI_len];exact Rg.ys_even p x
  have hyl:∀ x,(sortI (ysP p x)).length≤p.length:=fun x=>by rw [sortI_len];exact Rg.ys_len p x
  have rw7:∀ v,pureCall E.P (L E) 23 [PV,.int .i64 v]=some (iO (sortI (ysP p v))):=fun v=>by rw [rw7,Rg.rows7_sort hpo]
  have Uln:∀ h,lenT .sl h (iO (sortU (p.map (·.1))))=some (.int .i64 (sortU (p.map (·.1))).length):=fun h=>iO_len
  have Uix:∀ (i:Nat) (hi:i<(sortU (p.map (·.1))).length),indexAddrT (.sl 3 ⟨some false,some 1⟩) (iO (sortU (p.map (·.1)))) (.int .i64 (i:Int))=some (cptr (.int .i64 (sortU (p.map (·.1)))[i])):=fun i hi=>iO_index hi
  have Ubl:∀ d n,below (d+1) n (iO (sortU (p.map (·.1))))=true:=fun d n=>iO_bel
  have iTs:=iT_set (p.map (·.1))
  have iTb:∀ d n,below (d+1) n (iT (p.map (·.1)))=true:=fun d n=>iT_bel
  generalize sortU (p.map (·.1))=U at *
  generalize iO U=UV at *
  generalize iT (p.map (·.1))=XV at *
  simp -implicitDefEqProofs [k6_5,prep_frz,fz,ret1 m22,iTs,so,prep_new,newK_nil s32]
  rw [LL_rec (α:=Nat × List Rect) (0,[]) (fun a=>[(7,rectR.sl 1 a.2),(8,.int .i64 (a.1:Int))]) (fun a=>[.dead,rectR.row 39 a.2])
   (fun a=>(.exit 2,[(7,rectR.sl 1 (a.2++outT (stripL (colY p) (U.drop a.1)))),(8,undef)],[.dead,rectR.row 39 (a.2++outT (stripL (colY p) (U.drop a.1)))])) (fun a=>a.1≤U.length∧a.2.length≤100 * a.1) (fun a=>U.length-a.1)]
  ·rw [List.drop_zero,List.nil_append]
   generalize outT (stripL (colY p) U)=F
   have rr:=Rec.reify_row (R:=rectR) (P:=E.P) (h:=[.dead,rectR.row 39 F]) (b:=1) (n:=7) (t:=39) (l:=F) rfl s32 a32
   by_cases h2:200<F.length
   ·have h2':200<(F.length:Int):=by omega
    simp -implicitDefEqProofs [k6_11,Rec.sl_len,h2,h2',resL]
   ·have h2':¬ (200<(F.length:Int)):=by omega
    simp -implicitDefEqProofs [k6_11,Rec.sl_len,h2,h2',rr,resL]
  ·exact ⟨Nat.zero_le _,Nat.zero_le _⟩
  ·simp -implicitDefEqProofs [k6_11,Rec.sl_nil]
  ·rfl
  ·intro nx c hc ih
   obtain ⟨i,o⟩:=c
   obtain ⟨h1,h2⟩:=hc
   simp only at h1 h2
   by_cases hi:i+1<U.length
   ·have wi:IntKind.i64.wrap ((i:Int)+1)=((i+1:Nat):Int):=(wrap64 (by omega) (by omega)).trans (by omega)
    have hi':((i+1:Nat):Int)<(U.length:Int):=by omega
    have px:=Uix i (by omega)
    have px1:=Uix (i+1) hi
    have hcl:2 * (colY p U[i]).length≤p.length:=Rg.colY_len p U[i]
    have ih:=ih (i+1,o++emit ⟨U[i],U[i+1],colY p U[i]⟩) (by show U.length-(i+1)<U.length-i;omega) ⟨by show i+1≤U.length;omega,by
     show (o++emit ⟨U[i],U[i+1],colY p U[i]⟩).length≤100 * (i+1)
     have e:(emit ⟨U[i],U[i+1],colY p U[i]⟩).length=(colY p U[i]).length:=List.length_map _
     rw [List.length_append,e];omega⟩
    rw [strip_step hi,← List.append_assoc]
    have hev:=hev U[i]
    have hyl:=hyl U[i]
    have hrw:=rw7 U[i]
    have ecol:colY p U[i]=pairs (sortI (ysP p U[i])):=rfl
    obtain ⟨Y,hY⟩:∃ Y,sortI (ysP p U[i])=Y:=⟨_,rfl⟩
    rw [ecol,hY] at hcl ih
    rw [ecol,hY]
    rw [hY] at hev hyl hrw
    have ee:=Rg.ends_pairs hev
    have Yln:∀ h,lenT .sl h (iO Y)=some (.int .i64 Y.length):=fun h=>iO_len
    have Yix:∀ (j:Nat) (hj:j<Y.length),indexAddrT (.sl 3 ⟨some false,some 1⟩) (iO Y) (.int .i64 (j:Int))=some (cptr (.int .i64 Y[j])):=fun j hj=>iO_index hj
    have Ybl:∀ d n,below (d+1) n (iO Y)=true:=fun d n=>iO_bel
    clear ecol hY
    generalize iO Y=YV at *
    generalize U[i]=x0 at *
    generalize U[i+1]=x1 at *
    have hel:=Rg.ends_len (pairs Y)
    rw [ee] at hel
    simp -implicitDefEqProofs [k6_11,-List.append_assoc,-Int.natCast_add] at ih
    simp -implicitDefEqProofs [r6_11,k6_11,Uln,hi,hi',wi,px,px1,ret1 m23,sv0,sett,hrw,-List.append_assoc,-Int.natCast_add]
    rw [LL_for (γ:=List Rect) (pairs Y) o (fun j o'=>[(7,rectR.sl 1 o'),(10,.int .i64 ((2 * j:Nat):Int))]) (fun _ o'=>[.dead,rectR.row 39 o'])
     (fun _ rest o'=>(.exit 4,[(7,rectR.sl 1 (o'++emit ⟨x0,x1,rest⟩)),(10,undef)],[.dead,rectR.row 39 (o'++emit ⟨x0,x1,rest⟩)])) (fun j o'=>o'.length=o.length+j) (by omega) rfl]
    ·simp -implicitDefEqProofs [k6_15,wi,trim_le,bP,-List.append_assoc,-Int.natCast_add]
     exact ih
    ·simp -implicitDefEqProofs [k6_15]
    ·rfl
    ·intro nx2 j o' hj _
     have w2:IntKind.i64.wrap (((2 * j:Nat):Int)+1)=((2 * j+1:Nat):Int):=wrap64 (by omega) (by omega)
     have hjn:¬ (((2 * j+1:Nat):Int)<(Y.length:Int)):=by omega
     have hjn':¬ (2 * j+1<Y.length):=by omega
     have e0:emit ⟨x0,x1,[]⟩=[]:=rfl
     simp -implicitDefEqProofs [r6_15,k6_15,Yln,w2,hjn,hjn',e0,trim_le,-Int.natCast_add,-Int.natCast_mul]
    ·intro nx2 j s rest o' hj hv hd hw ho ih2
     obtain ⟨g1,g2,g3,g4⟩:=ends_at7 hj
     simp only [ee] at g1 g2 g3 g4
     rw [hv] at g3 g4
     have st:=fun h (hob:h[1]?=some (rectR.row 39 o'))=>app_rect (h:=h) (b:=1) (lo:=0) (c:=o') ⟨x0,s.1,x1,s.2⟩ hob (Nat.zero_le _) (by omega)
     have w2:IntKind.i64.wrap (((2 * j:Nat):Int)+1)=((2 * j+1:Nat):Int):=wrap64 (by omega) (by omega)
     have w3:IntKind.i64.wrap (((2 * j:Nat):Int)+2)=((2 * (j+1):Nat):Int):=(wrap64 (by omega) (by omega)).trans (by omega)
     have hjn:((2 * j+1:Nat):Int)<(Y.length:Int):=by omega
     have hjn':2 * j+1<Y.length:=by omega
     have ya:=Yix (2 * j) g1
     have yb:=Yix (2 * j+1) g2
     rw [g3] at ya
     rw [g4] at yb
     have ih2:=ih2 (o'++[⟨x0,s.1,x1,s.2⟩]) (by rw [List.length_append];show o'.length+1=_;omega)
     rw [emit_cons7,← List.append_assoc]
     simp -implicitDefEqProofs [k6_15,-List.append_assoc,-Int.natCast_add,-Int.natCast_mul] at ih2
     simp -implicitDefEqProofs [r6_15,k6_15,Yln,wi,w2,w3,hjn,hjn',px,px1,ya,yb,b4_all,lit_rect,st,trim_le,-List.append_assoc,-Int.natCast_add,-Int.natCast_mul]
     exact ih2
   ·have wi:IntKind.i64.wrap ((i:Int)+1)=((i+1:Nat):Int):=(wrap64 (by omega) (by omega)).trans (by omega)
    have hi':¬ (((i+1:Nat):Int)<(U.length:Int)):=by omega
    rw [strip_end hi,List.append_nil]
    simp -implicitDefEqProofs [r6_11,k6_11,Uln,wi,hi,hi',trim_le,-Int.natCast_add]
 ·simp -implicitDefEqProofs [k6_5,Rec.sl_nil]
 ·rfl
 ·intro nx i c hi _
  simp -implicitDefEqProofs [r6_5,k6_5,hi,ln,trim_le]
 ·intro nx i v rest c hi hv hd hw hc ih
  have hi':(i:Int)<(p.length:Int):=by omega
  have pi:=pix i hi
  rw [hv,span_val] at pi
  have ap:=fun h (hob:h[0]?=some (intR.row 3 c))=>app_num (h:=h) (b:=0) (lo:=0) (c:=c) v.1 hob (Nat.le_refl _) (by omega)
  have ih:=ih (c++[v.1]) (by simp;omega)
  have em:(v :: rest).map (·.1)=[v.1]++rest.map (·.1):=rfl
  rw [em,← List.append_assoc]
  simp -implicitDefEqProofs [k6_5,-List.append_assoc] at ih
  simp -implicitDefEqProofs [r6_5,k6_5,hi,hi',ln,pi,lit_num,ap,hw,trim_le,-List.append_assoc]
  exact ih
open Rg (Pt)
theorem neqPt (a b c d:Int):aBin E.P .neq 42 (.agg ⟨[.int .i64 a,.int .i64 b]⟩) (.agg ⟨[.int .i64 c,.int .i64 d]⟩)=(allOf [some (a == c),some (b == d)]).map fun b=>.bool (!b):=by kernel_rfl
theorem neq_pt (s t:Pt):aBin E.P .neq 42 (spanR.val s) (spanR.val t)=some (.bool (decide (s≠t))):=by
 obtain ⟨a,b⟩:=s
 obtain ⟨c,d⟩:=t
 rw [span_val,span_val,neqPt]
 by_cases h1:a=c <;> by_cases h2:b=d <;> simp [allOf_two,h1,h2]
theorem same_pts (x y:Bool) (l r:List Pt) (hl:l.length≤1000000):pureCall E.P (L E) 17 [lst x (spanR.vals l),lst y (spanR.vals r)]=some (.bool (decide (l=r))):=by
 have ixl:∀ (i:Nat) (hi:i<l.length),indexAddrT (.sl 42 ⟨some true,some 2⟩) (lst x (spanR.vals l)) (.int .i64 (i:Int))=some (cptr (spanR.val l[i])):=fun i hi=>Rec.index_tree rfl hi
 have ixr:∀ (i:Nat) (hi:i<r.length),indexAddrT (.sl 42 ⟨some true,some 2⟩) (lst y (spanR.vals r)) (.int .i64 (i:Int))=some (cptr (spanR.val r[i])):=fun i hi=>Rec.index_tree rfl hi
 have fit:∀ s,fitsTT ⟨some true,some 2⟩ (spanR.val s)=true:=fun s=>rfl
 have ll:∀ h,lenT .sl h (lst x (spanR.vals l))=some (.int .i64 l.length):=fun h=>Rec.tree_len
 have lr:∀ h,lenT .sl h (lst y (spanR.vals r))=some (.int .i64 r.length):=fun h=>Rec.tree_len
 have bl:∀ d n,below (d+1) n (lst x (spanR.vals l))=true:=fun d n=>rfl
 have br:∀ d n,below (d+1) n (lst y (spanR.vals r))=true:=fun d n=>rfl
 generalize lst x (spanR.vals l)=LV at *
 generalize lst y (spanR.vals r)=RV at *
 rw [pureCall_fn F17 rfl]
 by_cases hlen:l.length=r.length
 ·have hlen':(l.length:Int)=(r.length:Int):=by omega
  simp -implicitDefEqProofs [r17,p17,ll,lr,hlen,hlen']
  rw [LL_for (γ:=Unit) l () (fun i _=>[(5,.int .i64 i)]) (fun _ _=>[]) (fun i rest _=>if eqL rest (r.drop i) then (.exit 0,[(5,undef)],[]) else (.ret,[(4,.bool false),(5,undef)],[])) (fun _ _=>True) (by omega) trivial]
  ·cases h:eqL l r
   ·have:¬ l=r:=of_decide_eq_false h
    simp [this,k17_4,h]
   ·have:l=r:=of_decide_eq_true h
    simp [this,k17_4,eqL]
  ·simp [k17_4]
  ·rfl
  ·intro nx i c hi _
   have hd0:eqL [] (r.drop i)=true:=by rw [List.drop_eq_nil_of_le (by omega)];rfl
   rw [hd0]
   simp -implicitDefEqProofs [r17_4,k17_4,ll,lr,hi,hlen,trim_le]
  ·intro nx i v rest c hi hv hd hw _ ih
   have ih:=ih () trivial
   have hi':i<r.length:=by omega
   have hrd:r.drop i=r[i] :: r.drop (i+1):=List.drop_eq_getElem_cons hi'
   rw [hrd,eqL_cons]
   simp -implicitDefEqProofs [k17_4] at ih
   by_cases he:v=r[i]
   ·simp -implicitDefEqProofs [r17_4,k17_4,ll,lr,hi',hlen,ixl i hi,ixr i hi',fit,neq_pt,hv,hw,he,trim_le]
    exact ih
   ·simp -implicitDefEqProofs [r17_4,k17_4,ll,lr,hi',hlen,ixl i hi,ixr i hi',fit,neq_pt,hv,he,trim_le]
 ·have:¬ l=r:=fun e=>hlen (by rw [e])
  have hlen':¬ ((l.length:Int)=r.length):=by omega
  simp -implicitDefEqProofs [r17,p17,ll,lr,hlen',this]
open Rg (Rect Pt sidesP shoe sumZ shoeP rightP)
theorem shoe_bound {p:List Pt} (hr:rightP p=true):-1000000000000000≤shoeP p∧shoeP p≤1000000000000000:=by
 have hpo:=Rg.rightP_poly hr
 obtain ⟨hp4,hp60⟩:=Rg.rightP_len hr
 have hsl:=Rg.sides_len p
 have key:∀ l:List (Pt × Pt),(∀ s∈l,s∈sidesP p)→-2000000000000 * (l.length:Int)≤sumZ shoe l∧sumZ shoe l≤2000000000000 * (l.length:Int):=by
  intro l
  induction l with
  | nil=>intro _;exact ⟨by decide,by decide⟩
  | cons s l ih =>
   intro h
   have ih:=ih fun t ht=>h t (List.mem_cons_of_mem _ ht)
   obtain ⟨m1,m2⟩:=Rg.sides_mem (h s (List.mem_cons_self ..))
   have q:=shoe_le (hpo.grid _ m1) (hpo.grid _ m2)
   have es:sumZ shoe (s :: l)=(s.1.1 * s.2.2-s.2.1 * s.1.2)+sumZ shoe l:=rfl
   have el:((s :: l).length:Int)=(l.length:Int)+1:=by simp
   rw [es,el]
   omega
 have:=key (sidesP p) fun _ h=>h
 rw [hsl] at this
 unfold shoeP
 omega
set_option maxHeartbeats 1000000 in
theorem twice_spec (x:Bool) (p:List Pt) (hr:rightP p=true):pureCall E.P (L E) 30 [lst x (spanR.vals p)]=some (.int .i64 (shoeP p)):=by
 have ln:∀ h,lenT .sl h (lst x (spanR.vals p))=some (.int .i64 p.length):=fun h=>Rec.tree_len
 have bP:∀ d n,below (d+1) n (lst x (spanR.vals p))=true:=fun d n=>rfl
 have pix:=fun j hj=>pt_index x p j hj
 have hpo:=Rg.rightP_poly hr
 obtain ⟨hp4,hp60⟩:=Rg.rightP_len hr
 have hsl:=Rg.sides_len p
 rw [pureCall_fn F30 rfl]
 generalize hPV:lst x (spanR.vals p)=PV at *
 simp -implicitDefEqProofs [r30,p30,ln]
 rw [LL_for (γ:=Int) (sidesP p) 0 (fun i c=>[(3,.int .i64 c),(4,.int .i64 i)]) (fun _ _=>[]) (fun _ rest c=>(.exit 0,[(3,.int .i64 (c+sumZ shoe rest)),(4,undef)],[])) (fun i c=>-2000000000000 * i≤c∧c≤2000000000000 * i) (by omega) (by omega)]
 ·have e:(0:Int)+sumZ shoe (sidesP p)=shoeP p:=Int.zero_add _
  rw [e]
  simp -implicitDefEqProofs [k30_3]
 ·simp -implicitDefEqProofs [k30_3]
 ·rfl
 ·intro nx i c hi _
  simp -implicitDefEqProofs [r30_3,k30_3,hi,hsl,ln,trim_le,sumZ]
 ·intro nx i s rest c hi hv hd hw hc ih
  have hip:i<p.length:=by omega
  have hip':(i:Int)<(p.length:Int):=by omega
  have hm:(i+1) % p.length<p.length:=Nat.mod_lt _ (by omega)
  have es:=Rg.sides_get hip
  rw [hv] at es
  have e1:p.getD i (0,0)=s.1:=by rw [es,List.getD_eq_getElem?_getD,List.getElem?_eq_getElem hip];rfl
  have e2:p.getD ((i+1) % p.length) (0,0)=s.2:=by rw [es,List.getD_eq_getElem?_getD,List.getElem?_eq_getElem hm];rfl
  have i1:=pix i hip
  have i2:=pix _ hm
  rw [e1,span_val] at i1
  rw [e2,span_val] at i2
  have wi:IntKind.i64.wrap ((i:Int)+1)=((i+1:Nat):Int):=(wrap64 (by omega) (by omega)).trans (by omega)
  have rm:=rem_nat (P:=E.P) (t:=3) (m:=i+1) (n:=p.length) (by omega)
  obtain ⟨m1,m2⟩:=Rg.sides_mem (by rw [← hv];exact List.getElem_mem hi:s∈sidesP p)
  have q:=shoe_le (hpo.grid _ m1) (hpo.grid _ m2)
  have ea:c+sumZ shoe (s :: rest)=(c+s.1.1 * s.2.2-s.2.1 * s.1.2)+sumZ shoe rest:=by
   show c+((s.1.1 * s.2.2-s.2.1 * s.1.2)+sumZ shoe rest)=_
   omega
  rw [ea]
  have ih:=ih (c+s.1.1 * s.2.2-s.2.1 * s.1.2) (by push_cast;omega)
  clear es e1 e2 hm
  generalize (i+1) % p.length=j at i2 rm
  have hl:(i:Int)<60:=by omega
  have wu:IntKind.i64.wrap (s.1.1 * s.2.2)=s.1.1 * s.2.2:=wrap64 (by omega) (by omega)
  have wv:IntKind.i64.wrap (s.2.1 * s.1.2)=s.2.1 * s.1.2:=wrap64 (by omega) (by omega)
  have wd:IntKind.i64.wrap (c+s.1.1 * s.2.2)=c+s.1.1 * s.2.2:=wrap64 (by omega) (by omega)
  have wc:IntKind.i64.wrap (c+s.1.1 * s.2.2-s.2.1 * s.1.2)=c+s.1.1 * s.2.2-s.2.1 * s.1.2:=wrap64 (by omega) (by omega)
  simp -implicitDefEqProofs [k30_3,-Int.natCast_add] at ih
  simp -implicitDefEqProofs [r30_3,k30_3,hip,hip',ln,i1,i2,wi,rm,wu,wv,wd,wc,hw,trim_cut,bP,-Int.natCast_add]
  exact ih
theorem area7_spec (x:Bool) (p:List Pt) (hp:p.length≤1000000):pureCall E.P (L E) 11 [lst x (spanR.vals p)]=some (.int .i64 (areaP p)):=by
 have hR:=right7_spec x p hp
 have hT:=fun h=>twice_spec x p h
 have rf:∀ h,reify E.P 8 h (lst x (spanR.vals p))=some (lst x (spanR.vals p)):=fun _=>rfl
 have hb:=fun h=>shoe_bound (p:=p) h
 unfold areaP
 rw [pureCall_fn F11 rfl]
 generalize hPV:lst x (spanR.vals p)=PV at *
 cases hr:rightP p
 ·rw [hr] at hR
  simp -implicitDefEqProofs [r11,p11,ret0 m9,rf,hR]
 rw [hr] at hR
 have hT:=hT hr
 have hb:=hb hr
 have wq:IntKind.i64.wrap ((shoeP p).tdiv 2)=(shoeP p).tdiv 2:=by
  have h1:(shoeP p).tdiv 2≤1000000000000000∧-1000000000000000≤(shoeP p).tdiv 2:=by
   rcases Int.le_total 0 (shoeP p) with h | h
   ·rw [Int.tdiv_eq_ediv_of_nonneg h];omega
   ·obtain ⟨y,hy⟩:∃ y,shoeP p = -y:=⟨-shoeP p,by omega⟩
    rw [hy,Int.neg_tdiv,Int.tdiv_eq_ediv_of_nonneg (by omega)];omega
  exact wrap64 (by omega) (by omega)
 generalize shoeP p=z at *
 simp -implicitDefEqProofs [r11,p11,ret0 m9,rf,hR,ret0 m30,hT,bin_quo,wq]
theorem same_all (k:Option Bool) (A:List (List Pt)) (hk:Enc.Ok k A) (hl:A.length≤1000000) (hA:∀ p∈A,p.length≤1000000):pureCall E.P (L E) 13 [ptsE.o k A,ptsE.o k A]=some (.bool true):=by
 have ln:∀ h,lenT .sl h (ptsE.o k A)=some (.int .i64 A.length):=fun h=>Enc.o_len hk
 have ix:∀ (i:Nat) (hi:i<A.length),indexAddrT (.sl 22 ⟨some false,some 1⟩) (ptsE.o k A) (.int .i64 (i:Int))=some (cptr (ptsE.e A[i])):=fun i hi=>Enc.index_o hk hi
 have sp:=fun (p:List Pt) (h:p∈A)=>same_pts false false p p (hA p h)
 rw [pureCall_fn F13 rfl]
 generalize ptsE.o k A=V at *
 simp -implicitDefEqProofs [r13,p13,ln]
 rw [LL_for (γ:=Unit) A () (fun i _=>[(5,.int .i64 i)]) (fun _ _=>[]) (fun _ _ _=>(.exit 0,[(5,undef)],[])) (fun _ _=>True) (by omega) trivial]
 ·simp -implicitDefEqProofs [k13_4]
 ·simp -implicitDefEqProofs [k13_4]
 ·rfl
 ·intro nx i c hi _
  simp -implicitDefEqProofs [r13_4,k13_4,ln,hi,trim_le]
 ·intro nx i p rest c hi hv hd hw _ ih
  have ih:=ih () trivial
  have ixi:=ix i hi
  rw [hv] at ixi
  have spp:=sp p (by rw [← hv];exact List.getElem_mem hi)
  rw [decide_eq_true rfl] at spp
  have ee:ptsE.e p=lst false (spanR.vals p):=rfl
  have rf:∀ h,reify E.P 8 h (lst false (spanR.vals p))=some (lst false (spanR.vals p)):=fun _=>rfl
  have ft:fitsTT ⟨some false,some 1⟩ (lst false (spanR.vals p))=true:=rfl
  rw [ee] at ixi
  generalize lst false (spanR.vals p)=PV at *
  simp -implicitDefEqProofs [k13_4] at ih
  simp -implicitDefEqProofs [r13_4,k13_4,ln,hi,ixi,ft,rf,ret0 m17,spp,hw,trim_le]
  exact ih
open Rg (Rect)
set_option maxRecDepth 100000 in
theorem ring_reg:regB [⟨0,0,1,3⟩,⟨1,0,2,1⟩,⟨1,2,2,3⟩,⟨2,0,3,3⟩]=true:=by kernel_rfl
set_option maxRecDepth 100000 in
theorem two_reg:regB [⟨0,0,1,1⟩,⟨1,1,2,2⟩]=true:=by kernel_rfl
set_option maxRecDepth 100000 in
theorem ring_loops:Rg.loopsL (Rg.bdL [⟨0,0,1,3⟩,⟨1,0,2,1⟩,⟨1,2,2,3⟩,⟨2,0,3,3⟩])=[[(0,0),(3,0),(3,3),(0,3)],[(1,1),(1,2),(2,2),(2,1)]]:=by kernel_rfl
set_option maxRecDepth 100000 in
theorem two_loops:Rg.loopsL (Rg.bdL [⟨0,0,1,1⟩,⟨1,1,2,2⟩])=[[(0,0),(1,0),(1,1),(0,1)],[(1,1),(2,1),(2,2),(1,2)]]:=by kernel_rfl
theorem out_two {l:List (Rg.Pt × Rg.Pt)} {p q:List Rg.Pt} (h:Rg.loopsL l=[p,q]) (hle:leP p q=true):ptsE.vals (outL l)=[lst false (spanR.vals p),lst false (spanR.vals q)]:=by
 unfold outL
 rw [h,List.mergeSort_of_pairwise (by simp [hle])]
 rfl
theorem xo1:pureCall E.P (L E) 14 [lst true (rectR.vals [⟨0,0,1,3⟩,⟨1,0,2,1⟩,⟨1,2,2,3⟩,⟨2,0,3,3⟩])]=some (lst false [lst false (spanR.vals [(0,0),(3,0),(3,3),(0,3)]),lst false (spanR.vals [(1,1),(1,2),(2,2),(2,1)])]):=by
 have h:=outline_spec (some true) [⟨0,0,1,3⟩,⟨1,0,2,1⟩,⟨1,2,2,3⟩,⟨2,0,3,3⟩] Rec.ok_some ring_reg
 rw [out_two ring_loops (by decide)] at h
 exact h
theorem xo2:pureCall E.P (L E) 14 [lst true (rectR.vals [⟨0,0,1,1⟩,⟨1,1,2,2⟩])]=some (lst false [lst false (spanR.vals [(0,0),(1,0),(1,1),(0,1)]),lst false (spanR.vals [(1,1),(2,1),(2,2),(1,2)])]):=by
 have h:=outline_spec (some true) [⟨0,0,1,1⟩,⟨1,1,2,2⟩] Rec.ok_some two_reg
 rw [out_two two_loops (by decide)] at h
 exact h
theorem lp1 (h:Heap):buildSliceT (some ⟨3,1,8,.int .i64 0,⟨some false,some 1⟩⟩) false h 12 #[(0,.int .i64 0),(1,.int .i64 0),(2,.int .i64 3),(3,.int .i64 0),(4,.int .i64 3),(5,.int .i64 1),(6,.int .i64 1),(7,.int .i64 1),(8,.int .i64 1),(9,.int .i64 2),(10,.int .i64 0),(11,.int .i64 2)]=some (lst true [.int .i64 0,.int .i64 0,.int .i64 3,.int .i64 0,.int .i64 3,.int .i64 1,.int .i64 1,.int .i64 1,.int .i64 1,.int .i64 2,.int .i64 0,.int .i64 2],h) :=
 (build_lit' (n:=12) (l:=[(0,.int .i64 0),(1,.int .i64 0),(2,.int .i64 3),(3,.int .i64 0),(4,.int .i64 3),(5,.int .i64 1),(6,.int .i64 1),(7,.int .i64 1),(8,.int .i64 1),(9,.int .i64 2),(10,.int .i64 0),(11,.int .i64 2)]) rfl rfl (by decide) (by decide) (by decide)).trans rfl
set_option maxRecDepth 100000 in
theorem xp1:pureCall E.P (L E) 16 [lst true [.int .i64 0,.int .i64 0,.int .i64 3,.int .i64 0,.int .i64 3,.int .i64 1,.int .i64 1,.int .i64 1,.int .i64 1,.int .i64 2,.int .i64 0,.int .i64 2]]=some (lst false (spanR.vals [(0,0),(3,0),(3,1),(1,1),(1,2),(0,2)])):=pureCall_le (evF_L 60) (by kernel_rfl)
theorem lp2 (h:Heap):buildSliceT (some ⟨3,1,8,.int .i64 0,⟨some false,some 1⟩⟩) false h 8 #[(0,.int .i64 0),(1,.int .i64 0),(2,.int .i64 0),(3,.int .i64 2),(4,.int .i64 1),(5,.int .i64 2),(6,.int .i64 1),(7,.int .i64 0)]=some (lst true [.int .i64 0,.int .i64 0,.int .i64 0,.int .i64 2,.int .i64 1,.int .i64 2,.int .i64 1,.int .i64 0],h) :=
 (build_lit' (n:=8) (l:=[(0,.int .i64 0),(1,.int .i64 0),(2,.int .i64 0),(3,.int .i64 2),(4,.int .i64 1),(5,.int .i64 2),(6,.int .i64 1),(7,.int .i64 0)]) rfl rfl (by decide) (by decide) (by decide)).trans rfl
set_option maxRecDepth 100000 in
theorem xp2:pureCall E.P (L E) 16 [lst true [.int .i64 0,.int .i64 0,.int .i64 0,.int .i64 2,.int .i64 1,.int .i64 2,.int .i64 1,.int .i64 0]]=some (lst false (spanR.vals [(0,0),(0,2),(1,2),(1,0)])):=pureCall_le (evF_L 60) (by kernel_rfl)
theorem lp3 (h:Heap):buildSliceT (some ⟨3,1,8,.int .i64 0,⟨some false,some 1⟩⟩) false h 8 #[(0,.int .i64 0),(1,.int .i64 0),(2,.int .i64 3),(3,.int .i64 0),(4,.int .i64 3),(5,.int .i64 3),(6,.int .i64 0),(7,.int .i64 3)]=some (lst true [.int .i64 0,.int .i64 0,.int .i64 3,.int .i64 0,.int .i64 3,.int .i64 3,.int .i64 0,.int .i64 3],h) :=
 (build_lit' (n:=8) (l:=[(0,.int .i64 0),(1,.int .i64 0),(2,.int .i64 3),(3,.int .i64 0),(4,.int .i64 3),(5,.int .i64 3),(6,.int .i64 0),(7,.int .i64 3)]) rfl rfl (by decide) (by decide) (by decide)).trans rfl
set_option maxRecDepth 100000 in
theorem xp3:pureCall E.P (L E) 16 [lst true [.int .i64 0,.int .i64 0,.int .i64 3,.int .i64 0,.int .i64 3,.int .i64 3,.int .i64 0,.int .i64 3]]=some (lst false (spanR.vals [(0,0),(3,0),(3,3),(0,3)])):=pureCall_le (evF_L 60) (by kernel_rfl)
theorem lp4 (h:Heap):buildSliceT (some ⟨3,1,8,.int .i64 0,⟨some false,some 1⟩⟩) false h 8 #[(0,.int .i64 1),(1,.int .i64 1),(2,.int .i64 1),(3,.int .i64 2),(4,.int .i64 2),(5,.int .i64 2),(6,.int .i64 2),(7,.int .i64 1)]=some (lst true [.int .i64 1,.int .i64 1,.int .i64 1,.int .i64 2,.int .i64 2,.int .i64 2,.int .i64 2,.int .i64 1],h) :=
 (build_lit' (n:=8) (l:=[(0,.int .i64 1),(1,.int .i64 1),(2,.int .i64 1),(3,.int .i64 2),(4,.int .i64 2),(5,.int .i64 2),(6,.int .i64 2),(7,.int .i64 1)]) rfl rfl (by decide) (by decide) (by decide)).trans rfl
set_option maxRecDepth 100000 in
theorem xp4:pureCall E.P (L E) 16 [lst true [.int .i64 1,.int .i64 1,.int .i64 1,.int .i64 2,.int .i64 2,.int .i64 2,.int .i64 2,.int .i64 1]]=some (lst false (spanR.vals [(1,1),(1,2),(2,2),(2,1)])):=pureCall_le (evF_L 60) (by kernel_rfl)
theorem lp5 (h:Heap):buildSliceT (some ⟨3,1,8,.int .i64 0,⟨some false,some 1⟩⟩) false h 8 #[(0,.int .i64 0),(1,.int .i64 0),(2,.int .i64 1),(3,.int .i64 0),(4,.int .i64 1),(5,.int .i64 1),(6,.int .i64 0),(7,.int .i64 1)]=some (lst true [.int .i64 0,.int .i64 0,.int .i64 1,.int .i64 0,.int .i64 1,.int .i64 1,.int .i64 0,.int .i64 1],h) :=
 (build_lit' (n:=8) (l:=[(0,.int .i64 0),(1,.int .i64 0),(2,.int .i64 1),(3,.int .i64 0),(4,.int .i64 1),(5,.int .i64 1),(6,.int .i64 0),(7,.int .i64 1)]) rfl rfl (by decide) (by decide) (by decide)).trans rfl
set_option maxRecDepth 100000 in
theorem xp5:pureCall E.P (L E) 16 [lst true [.int .i64 0,.int .i64 0,.int .i64 1,.int .i64 0,.int .i64 1,.int .i64 1,.int .i64 0,.int .i64 1]]=some (lst false (spanR.vals [(0,0),(1,0),(1,1),(0,1)])):=pureCall_le (evF_L 60) (by kernel_rfl)
theorem lp6 (h:Heap):buildSliceT (some ⟨3,1,8,.int .i64 0,⟨some false,some 1⟩⟩) false h 8 #[(0,.int .i64 1),(1,.int .i64 1),(2,.int .i64 2),(3,.int .i64 1),(4,.int .i64 2),(5,.int .i64 2),(6,.int .i64 1),(7,.int .i64 2)]=some (lst true [.int .i64 1,.int .i64 1,.int .i64 2,.int .i64 1,.int .i64 2,.int .i64 2,.int .i64 1,.int .i64 2],h) :=
 (build_lit' (n:=8) (l:=[(0,.int .i64 1),(1,.int .i64 1),(2,.int .i64 2),(3,.int .i64 1),(4,.int .i64 2),(5,.int .i64 2),(6,.int .i64 1),(7,.int .i64 2)]) rfl rfl (by decide) (by decide) (by decide)).trans rfl
set_option maxRecDepth 100000 in
theorem xp6:pureCall E.P (L E) 16 [lst true [.int .i64 1,.int .i64 1,.int .i64 2,.int .i64 1,.int .i64 2,.int .i64 2,.int .i64 1,.int .i64 2]]=some (lst false (spanR.vals [(1,1),(2,1),(2,2),(1,2)])):=pureCall_le (evF_L 60) (by kernel_rfl)
theorem lr1 (h:Heap):buildSliceT (some ⟨39,4,32,.agg ⟨[.int .i64 0,.int .i64 0,.int .i64 0,.int .i64 0]⟩,⟨some true,some 4⟩⟩) false h 4 #[(0,.agg ⟨[.int .i64 0,.int .i64 0,.int .i64 1,.int .i64 3]⟩),(1,.agg ⟨[.int .i64 1,.int .i64 0,.int .i64 2,.int .i64 1]⟩),(2,.agg ⟨[.int .i64 1,.int .i64 2,.int .i64 2,.int .i64 3]⟩),(3,.agg ⟨[.int .i64 2,.int .i64 0,.int .i64 3,.int .i64 3]⟩)]=some (lst true (rectR.vals [⟨0,0,1,3⟩,⟨1,0,2,1⟩,⟨1,2,2,3⟩,⟨2,0,3,3⟩]),h) :=
 (build_lit' (n:=4) (l:=[(0,.agg ⟨[.int .i64 0,.int .i64 0,.int .i64 1,.int .i64 3]⟩),(1,.agg ⟨[.int .i64 1,.int .i64 0,.int .i64 2,.int .i64 1]⟩),(2,.agg ⟨[.int .i64 1,.int .i64 2,.int .i64 2,.int .i64 3]⟩),(3,.agg ⟨[.int .i64 2,.int .i64 0,.int .i64 3,.int .i64 3]⟩)]) rfl rfl (by decide) (by decide) (by decide)).trans rfl
theorem lr2 (h:Heap):buildSliceT (some ⟨39,4,32,.agg ⟨[.int .i64 0,.int .i64 0,.int .i64 0,.int .i64 0]⟩,⟨some true,some 4⟩⟩) false h 2 #[(0,.agg ⟨[.int .i64 0,.int .i64 0,.int .i64 1,.int .i64 1]⟩),(1,.agg ⟨[.int .i64 1,.int .i64 1,.int .i64 2,.int .i64 2]⟩)]=some (lst true (rectR.vals [⟨0,0,1,1⟩,⟨1,1,2,2⟩]),h) :=
 (build_lit' (n:=2) (l:=[(0,.agg ⟨[.int .i64 0,.int .i64 0,.int .i64 1,.int .i64 1]⟩),(1,.agg ⟨[.int .i64 1,.int .i64 1,.int .i64 2,.int .i64 2]⟩)]) rfl rfl (by decide) (by decide) (by decide)).trans rfl
theorem lr3 (h:Heap):buildSliceT (some ⟨39,4,32,.agg ⟨[.int .i64 0,.int .i64 0,.int .i64 0,.int .i64 0]⟩,⟨some true,some 4⟩⟩) false h 2 #[(0,.agg ⟨[.int .i64 0,.int .i64 0,.int .i64 1,.int .i64 2]⟩),(1,.agg ⟨[.int .i64 1,.int .i64 0,.int .i64 3,.int .i64 1]⟩)]=some (lst true (rectR.vals [⟨0,0,1,2⟩,⟨1,0,3,1⟩]),h) :=
 (build_lit' (n:=2) (l:=[(0,.agg ⟨[.int .i64 0,.int .i64 0,.int .i64 1,.int .i64 2]⟩),(1,.agg ⟨[.int .i64 1,.int .i64 0,.int .i64 3,.int .i64 1]⟩)]) rfl rfl (by decide) (by decide) (by decide)).trans rfl
set_option maxRecDepth 100000 in
theorem xs3:pureCall E.P (L E) 17 [lst false (spanR.vals [(0,0),(3,0),(3,3),(0,3)]),lst false (spanR.vals [(0,0),(3,0),(3,3),(0,3)])]=some (.bool true):=pureCall_le (evF_L 60) (by kernel_rfl)
set_option maxRecDepth 100000 in
theorem xs4:pureCall E.P (L E) 17 [lst false (spanR.vals [(1,1),(1,2),(2,2),(2,1)]),lst false (spanR.vals [(1,1),(1,2),(2,2),(2,1)])]=some (.bool true):=pureCall_le (evF_L 60) (by kernel_rfl)
set_option maxRecDepth 100000 in
theorem xs5:pureCall E.P (L E) 17 [lst false (spanR.vals [(0,0),(1,0),(1,1),(0,1)]),lst false (spanR.vals [(0,0),(1,0),(1,1),(0,1)])]=some (.bool true):=pureCall_le (evF_L 60) (by kernel_rfl)
set_option maxRecDepth 100000 in
theorem xs6:pureCall E.P (L E) 17 [lst false (spanR.vals [(1,1),(2,1),(2,2),(1,2)]),lst false (spanR.vals [(1,1),(2,1),(2,2),(1,2)])]=some (.bool true):=pureCall_le (evF_L 60) (by kernel_rfl)
theorem xr1:polyX [(0,0),(3,0),(3,1),(1,1),(1,2),(0,2)]=.ok [⟨0,0,1,2⟩,⟨1,0,3,1⟩]:=by kernel_rfl
theorem xr2:polyX [(0,0),(0,2),(1,2),(1,0)]=.error 10:=by kernel_rfl
theorem xa1:areaP [(0,0),(3,0),(3,1),(1,1),(1,2),(0,2)]=4:=by kernel_rfl
theorem xg1:Rg.rightP [(0,0),(3,0),(3,1),(1,1),(1,2),(0,2)]=true:=by kernel_rfl
theorem ix_two (A B:Value) (hA:cellsL A=[A]) (hB:cellsL B=[B]) (fA:fitsTT ⟨some false,some 1⟩ A=true) (fB:fitsTT ⟨some false,some 1⟩ B=true):indexAddrT (.sl 22 ⟨some false,some 1⟩) (lst false [A,B]) (.int .i64 0)=some (cptr A)∧indexAddrT (.sl 22 ⟨some false,some 1⟩) (lst false [A,B]) (.int .i64 1)=some (cptr B):=by
 constructor
 ·rw [index_lst];simp [hA,fA]
 ·rw [index_lst];simp [hB,fB]
theorem small_spec:pureCall E.P (L E) 4 []=some (.bool true):=by
 have g1:=pregion_spec false [(0,0),(3,0),(3,1),(1,1),(1,2),(0,2)] (by decide)
 have g2:=pregion_spec false [(0,0),(0,2),(1,2),(1,0)] (by decide)
 have a1:=parea_spec false [(0,0),(3,0),(3,1),(1,1),(1,2),(0,2)] (by decide)
 have r1:=pright_spec false [(0,0),(3,0),(3,1),(1,1),(1,2),(0,2)] (by decide)
 rw [xr1] at g1
 rw [xr2] at g2
 rw [xa1] at a1
 rw [xg1] at r1
 have c1:=same_rects (some false) (some true) [⟨0,0,1,2⟩,⟨1,0,3,1⟩] [⟨0,0,1,2⟩,⟨1,0,3,1⟩] Rec.ok_some Rec.ok_some (by decide)
 rw [decide_eq_true rfl] at c1
 simp only [resL,Rec.o] at g1 g2 c1
 have so:∀ b l,settled depth (lst b l)=true:=fun _ _=>rfl
 have rp:∀ h b l,reify E.P 8 h (lst b (spanR.vals l))=some (lst b (spanR.vals l)):=fun _ _ _=>rfl
 have rr:∀ h b l,reify E.P 8 h (lst b (rectR.vals l))=some (lst b (rectR.vals l)):=fun _ _ _=>rfl
 obtain ⟨i1,i2⟩:=ix_two (lst false (spanR.vals [(0,0),(3,0),(3,3),(0,3)])) (lst false (spanR.vals [(1,1),(1,2),(2,2),(2,1)])) rfl rfl rfl rfl
 obtain ⟨i3,i4⟩:=ix_two (lst false (spanR.vals [(0,0),(1,0),(1,1),(0,1)])) (lst false (spanR.vals [(1,1),(2,1),(2,2),(1,2)])) rfl rfl rfl rfl
 have l1:=xo1
 have l2:=xo2
 have q1:=xp1
 have q2:=xp2
 have q3:=xp3
 have q4:=xp4
 have q5:=xp5
 have q6:=xp6
 have s3:=xs3
 have s4:=xs4
 have s5:=xs5
 have s6:=xs6
 rw [pureCall_fn F4 rfl]
 simp -implicitDefEqProofs [r4,p4,lp1,lp2,lp3,lp4,lp5,lp6,so,ret1 m16,q1,q2,q3,q4,q5,q6,ret1 m5,g1,g2,b4_all,lr1,lr2,lr3,ret1 m14,l1,l2,ret0 m7,rr,c1,ret0 m10,rp,a1,ret0 m8,r1,i1,i2,i3,i4,ret0 m17,s3,s4,s5,s6]
open Rg (Rect Pt Sd rightP polyL bdL refS ofL)
theorem trc_len (f:Nat→Nat):∀ (k:Nat) (d:List Bool) (i:Nat),(Rg.trc f k d i).2.length≤k
 | 0,_,_=>Nat.le_refl _
 | k+1,d,i=>by
  unfold Rg.trc
  split
  ·exact Nat.succ_le_succ (trc_len f k _ _)
  ·exact Nat.zero_le _
theorem ways_len (f:Nat→Nat) (n:Nat):∀ (m i:Nat) (d:List Bool),(Rg.waysF f n m i d).length=m∧∀ w∈Rg.waysF f n m i d,w.length≤n+1
 | 0,_,_=>⟨rfl,fun w h=>absurd h List.not_mem_nil⟩
 | m+1,i,d=>by
  obtain ⟨h1,h2⟩:=ways_len f n m (i+1) (Rg.trc f (n+1) d i).1
  refine ⟨congrArg (· + 1) h1,fun w hw=>?_⟩
  rcases List.mem_cons.1 hw with e | e
  ·rw [e];exact trc_len f (n+1) d i
  ·exact h2 w e
theorem corn_len (l:List Sd):∀ w:List Nat,(Rg.cornF l w).length≤w.length
 | []=>Nat.le_refl _
 | i :: w=>by
  have ih:=corn_len l w
  have e:Rg.cornF l (i :: w)=(if Rg.turnI (Rg.gtS l i) (Rg.gtS l (Rg.nxI l i))=0 then [] else [(Rg.gtS l i).2])++Rg.cornF l w:=rfl
  rw [e,List.length_append,List.length_cons]
  split
  ·show 0+_≤_;omega
  ·show 1+_≤_;omega
theorem outL_len (l:List Sd):(outL l).length≤l.length∧∀ p∈outL l,p.length≤l.length+1:=by
 obtain ⟨h1,h2⟩:=ways_len (Rg.nxI l) l.length l.length 0 (List.replicate l.length false)
 constructor
 ·unfold outL
  rw [List.length_mergeSort]
  unfold Rg.loopsL
  refine Nat.le_trans (List.length_filter_le _ _) ?_
  rw [List.length_map]
  exact Nat.le_of_eq h1
 ·intro p hp
  have hp:=List.mem_mergeSort.1 hp
  obtain ⟨w,hw,e⟩:=List.mem_map.1 (List.mem_filter.1 hp).1
  have:=(Rg.rotM_rot (Rg.cornF l w)).len
  have:=corn_len l w
  have:=h2 w hw
  rw [← e];omega
theorem outline7_spec (k:Option Bool) (a:List Rect) (hk:Rec.Ok k a) (hr:regB a=true):pureCall E.P (L E) 15 [rectR.o k a]=some (lst false (ptsE.vals (outL (bdL a)))):=by
 obtain ⟨h1,h2,h3⟩:=regB_iff.1 hr
 have h1:=List.all_eq_true.1 h1
 have ha:=h3.apart
 obtain ⟨o,o1,o2,o3⟩:=outline7_walk k a hk h2 hr (xs_near h1) (Rg.ref_net ha) (ref_len h2) (ref_near h1)
 have e:o=outL (bdL a):=Rg.asc_eq o1 (out_asc (regB_net hr)) fun p=>by
  rw [o2.mem_iff,← Rg.ref_loops ha]
  exact List.mem_mergeSort.symm
 rw [o3,e]
def outV (a:List Rect):Value:=if regB a then lst false (ptsE.vals (outL (bdL a))) else .slice none 0 0
theorem out_both (k:Option Bool) (a:List Rect) (hk:Rec.Ok k a) (ha:a.length≤1000000) :
  pureCall E.P (L E) 14 [rectR.o k a]=some (outV a)∧pureCall E.P (L E) 15 [rectR.o k a]=some (outV a)∧pureCall E.P (L E) 13 [outV a,outV a]=some (.bool true)∧∀ h,reify E.P 8 h (outV a)=some (outV a):=by
 unfold outV
 cases hr:regB a
 ·exact ⟨outline_bad k a hk ha hr,outline7_bad k a hk ha hr,same_all none [] (fun _=>rfl) (by decide) (fun p h=>absurd h List.not_mem_nil),fun _=>rfl⟩
 ·obtain ⟨h1,h2,h3⟩:=regB_iff.1 hr
  obtain ⟨o1,o2⟩:=outL_len (bdL a)
  have:=bd_len h2
  exact ⟨outline_spec k a hk hr,outline7_spec k a hk hr,same_all (some false) (outL (bdL a)) Enc.ok_some (by omega) (fun p h=>by have:=o2 p h;omega),fun _=>rfl⟩
theorem pol_val (p:List Pt):∃ (k:Option Bool) (a:List Rect) (e:Int),resL (polyX p)=.tuple ⟨[rectR.o k a,.int .i64 e]⟩∧Rec.Ok k a∧a.length≤1000000:=by
 unfold polyX
 by_cases h1:rightP p=true
 ·rw [if_pos h1]
  by_cases h2:200<(polyL p).length
  ·rw [if_pos h2];exact ⟨none,[],6,rfl,fun _=>rfl,by decide⟩
  ·rw [if_neg h2];exact ⟨some false,polyL p,0,rfl,Rec.ok_some,by omega⟩
 ·rw [if_neg h1];exact ⟨none,[],10,rfl,fun _=>rfl,by decide⟩
set_option maxHeartbeats 2000000 in
theorem tells_law (p:List Pt) (l:List Rect):∃ h',L E 3 [lst false (spanR.vals p),lst false (rectR.vals l)] [] 0=some (.bool true,h'):=by
 refine ⟨[],?_⟩
 have sm:=small_spec
 have lnp:∀ h,lenT .sl h (lst false (spanR.vals p))=some (.int .i64 p.length):=fun h=>Rec.tree_len
 have lnl:∀ h,lenT .sl h (lst false (rectR.vals l))=some (.int .i64 l.length):=fun h=>Rec.tree_len
 have rp:∀ h,reify E.P 8 h (lst false (spanR.vals p))=some (lst false (spanR.vals p)):=fun _=>rfl
 have sp:settled depth (lst false (spanR.vals p))=true:=rfl
 have sl:settled depth (lst false (rectR.vals l))=true:=rfl
 have g1:p.length≤1000000→_:=pregion_spec false p
 have g2:p.length≤1000000→_:=region7_spec false p
 have r1:p.length≤1000000→_:=pright_spec false p
 have r2:p.length≤1000000→_:=right7_spec false p
 have a1:p.length≤1000000→_:=parea_spec false p
 have a2:p.length≤1000000→_:=area7_spec false p
 have ho:l.length≤1000000→pureCall E.P (L E) 12 [lst false (rectR.vals l)]=some (resL (ofR l)):=rof_spec (some false) l Rec.ok_some
 have hb:l.length≤1000000→pureCall E.P (L E) 14 [lst false (rectR.vals l)]=some (outV l)∧pureCall E.P (L E) 15 [lst false (rectR.vals l)]=some (outV l)∧pureCall E.P (L E) 13 [outV l,outV l]=some (.bool true)∧∀ h,reify E.P 8 h (outV l)=some (outV l):=out_both (some false) l Rec.ok_some
 generalize lst false (spanR.vals p)=PV at *
 generalize lst false (rectR.vals l)=LV at *
 rw [L_fn F3 rfl]
 by_cases h70:70<p.length
 ·have h70':70<(p.length:Int):=by omega
  simp -implicitDefEqProofs [r3,p3,ret0 m4,sm,lnp,lnl,h70,h70']
 have h70':¬ (70<(p.length:Int)):=by omega
 by_cases h30:30<l.length
 ·have h30':30<(l.length:Int):=by omega
  simp -implicitDefEqProofs [r3,p3,ret0 m4,sm,lnp,lnl,h70,h70',h30,h30']
 have h30':¬ (30<(l.length:Int)):=by omega
 have g1:=g1 (by omega)
 have g2:=g2 (by omega)
 have r1:=r1 (by omega)
 have r2:=r2 (by omega)
 have a1:=a1 (by omega)
 have a2:=a2 (by omega)
 have ho:=ho (by omega)
 obtain ⟨b1,b2,b3,b4⟩:=hb (by omega)
 obtain ⟨ka,a,e,ea,hka,hla⟩:=pol_val p
 rw [ea] at g1 g2
 obtain ⟨kc,c,f,ec,hkc,hrc⟩:∃ (k:Option Bool) (a:List Rect) (e:Int),resL (ofR l)=.tuple ⟨[rectR.o k a,.int .i64 e]⟩∧Rec.Ok k a∧regB a=true:=by
  have h0:regB []=true:=by kernel_rfl
  unfold ofR
  by_cases c1:l.all okR=true
  ·rw [if_pos c1,if_neg (by omega)]
   by_cases c2:(ofL l).length≤200
   ·rw [if_pos c2]
    obtain ⟨hf,hc⟩:=Rg.ofL_ok (ofL_ok' c1)
    have hb:∀ r∈l,r.inBox 1048576:=fun r hr=>okR_iff.1 (List.all_eq_true.1 c1 r hr)
    exact ⟨some false,ofL l,0,rfl,Rec.ok_some,regB_iff.2 ⟨List.all_eq_true.2 fun r hr=>okR_iff.2 (hf.box (fun x y hxy=>Rg.cell_box hb (by rw [← hc];exact hxy)) r hr),c2,hf⟩⟩
   ·rw [if_neg c2];exact ⟨none,[],6,rfl,fun _=>rfl,h0⟩
  ·rw [if_neg c1];exact ⟨none,[],1,rfl,fun _=>rfl,h0⟩
 rw [ec] at ho
 have hlc:=(regB_iff.1 hrc).2.1
 obtain ⟨c1,c2,c3,c4⟩:=out_both kc c hkc (by omega)
 have sa:=same_rects ka ka a a hka hka hla
 rw [decide_eq_true rfl] at sa
 have ra:∀ h,reify E.P 8 h (rectR.o ka a)=some (rectR.o ka a):=fun _=>Rec.o_reify
 have sc:settled depth (rectR.o kc c)=true:=Rec.o_set
 generalize rightP p=R at *
 generalize areaP p=A at *
 generalize rectR.o ka a=AV at *
 generalize rectR.o kc c=CV at *
 generalize outV l=O1 at *
 generalize outV c=O2 at *
 simp -implicitDefEqProofs [r3,p3,ret0 m4,sm,lnp,lnl,h70,h70',h30,h30',ret1 m5,sp,g1,ret1 m6,g2,ret0 m7,ra,sa,ret0 m8,rp,r1,ret0 m9,r2,bne,ret0 m10,a1,ret0 m11,a2,ret1 m12,sl,ho,ret1 m14,ret1 m15,b1,b2,ret0 m13,b3,b4,sc,c1,c2,c3,c4]
end Go.Proofs.YtnhdabelepjgbaaGreat.Bm
