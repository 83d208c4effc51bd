/-
 The reference encodes a drawing, walked. Conditions: lists that are not too long.
-/
import Derived.Test.YtplebjehcgcdeaaGreatDoorQT21
import Derived.Test.YtplebjehcgcdeaaGreatDoorQT22
import Derived.Test.YtplebjehcgcdeaaGreatDoorQT27
namespace Go.Proofs.YtplebjehcgcdeaaGreatDoor.Bm
open Go Go.RowKit
open Dw (Vol Ent Phs Drw rightRB rightV meetV letB digB ldB)
theorem qwithin (n a b:Int):pureCall E.P (L E) 60 [.int .i64 n,.int .i64 a,.int .i64 b]=some (.bool (decide (a≤n) && decide (n≤b))):=by
 rw [pureCall_fn F60 rfl]
 by_cases h:a≤n
 ·simp -implicitDefEqProofs [r60,p60,h]
 ·simp -implicitDefEqProofs [r60,p60,h]
theorem qrect (a b c d:Int):pureCall E.P (L E) 143 [.agg ⟨[.int .i64 a,.int .i64 b,.int .i64 c,.int .i64 d]⟩]=some (.bool (rightRB a b c d)):=by
 rw [pureCall_fn F143 rfl]
 simp -implicitDefEqProofs [r143,padS]
 unfold rightRB
 by_cases h1:0≤a
 case neg=>simp -implicitDefEqProofs [h1]
 by_cases h2:a<c
 case neg=>simp -implicitDefEqProofs [h1,h2]
 by_cases h3:c≤1048576
 case neg=>simp -implicitDefEqProofs [h1,h2,h3]
 by_cases h4:0≤b
 case neg=>simp -implicitDefEqProofs [h1,h2,h3,h4]
 by_cases h5:b<d
 case neg=>simp -implicitDefEqProofs [h1,h2,h3,h4,h5]
 simp -implicitDefEqProofs [h1,h2,h3,h4,h5]
theorem qbox (v:Vol):pureCall E.P (L E) 79 [.agg ⟨[.int .i64 v.x0,.int .i64 v.y0,.int .i64 v.x1,.int .i64 v.y1,.int .i64 v.z0,.int .i64 v.z1]⟩]=some (.bool (rightRB v.x0 v.y0 v.x1 v.y1 && (decide (0≤v.z0) && (decide (v.z0<v.z1) && decide (v.z1≤4096))))):=by
 have hr:=qrect v.x0 v.y0 v.x1 v.y1
 rw [pureCall_fn F79 rfl]
 cases h:rightRB v.x0 v.y0 v.x1 v.y1
 ·rw [h] at hr
  simp -implicitDefEqProofs [r79,p79,ret0 m143,hr]
  done
 rw [h] at hr
 by_cases h1:0≤v.z0
 case neg =>
  simp -implicitDefEqProofs [r79,p79,ret0 m143,hr,h1]
  done
 by_cases h2:v.z0<v.z1
 case neg =>
  simp -implicitDefEqProofs [r79,p79,ret0 m143,hr,h1,h2]
  done
 simp -implicitDefEqProofs [r79,p79,ret0 m143,hr,h1,h2]
 done
theorem rightV_q (v:Vol):rightV v=((rightRB v.x0 v.y0 v.x1 v.y1 && (decide (0≤v.z0) && (decide (v.z0<v.z1) && decide (v.z1≤4096)))) && ((decide (0≤v.use) && decide (v.use≤5)) && ((decide (0≤v.units) && decide (v.units≤1048576)) && (decide (v.units=0) || decide (v.use=0))))):=by
 unfold rightV
 generalize rightRB v.x0 v.y0 v.x1 v.y1=B
 rw [Bool.eq_iff_iff]
 simp only [Bool.and_eq_true,Bool.or_eq_true,decide_eq_true_eq]
 constructor
 ·rintro ⟨⟨⟨⟨⟨⟨⟨⟨h1,h2⟩,h3⟩,h4⟩,h5⟩,h6⟩,h7⟩,h8⟩,h9⟩
  exact ⟨⟨h1,h2,h3,h4⟩,⟨h6,by omega⟩,⟨h8,h9⟩,h5.symm⟩
 ·rintro ⟨⟨h1,h2,h3,h4⟩,⟨h6,h7⟩,⟨h8,h9⟩,h5⟩
  exact ⟨⟨⟨⟨⟨⟨⟨⟨h1,h2⟩,h3⟩,h4⟩,h5.symm⟩,h6⟩,by omega⟩,h8⟩,h9⟩
theorem qvol (v:Vol):pureCall E.P (L E) 29 [.agg ⟨volR.enc v⟩]=some (.bool (rightV v)):=by
 have hb:=qbox v
 have w1:=qwithin v.use 0 5
 have w2:=qwithin v.units 0 1048576
 show pureCall E.P (L E) 29 [.agg ⟨[.int .i64 v.x0,.int .i64 v.y0,.int .i64 v.x1,.int .i64 v.y1,.int .i64 v.z0,.int .i64 v.z1,.int .i64 v.use,.int .i64 v.units,.bool v.extra]⟩]=_
 rw [pureCall_fn F29 rfl,rightV_q]
 generalize (rightRB v.x0 v.y0 v.x1 v.y1 && (decide (0≤v.z0) && (decide (v.z0<v.z1) && decide (v.z1≤4096))))=B at *
 generalize (decide (0≤v.use) && decide (v.use≤5))=U at *
 generalize (decide (0≤v.units) && decide (v.units≤1048576))=M at *
 cases B
 ·simp -implicitDefEqProofs [r29,p29,ret0 m79,hb]
  done
 cases U
 ·simp -implicitDefEqProofs [r29,p29,ret0 m79,hb,ret0 m60,w1]
  done
 cases M
 ·simp -implicitDefEqProofs [r29,p29,ret0 m79,hb,ret0 m60,w1,w2]
  done
 by_cases h:v.units=0
 ·rw [h] at w2
  simp -implicitDefEqProofs [r29,p29,ret0 m79,hb,ret0 m60,w1,w2,h]
  done
 ·simp -implicitDefEqProofs [r29,p29,ret0 m79,hb,ret0 m60,w1,w2,h]
  done
def meetQ (v w:Vol):Bool:=decide (max v.x0 w.x0<min v.x1 w.x1) && decide (max v.y0 w.y0<min v.y1 w.y1) && decide (max v.z0 w.z0<min v.z1 w.z1)
theorem qmeet (v w:Vol):pureCall E.P (L E) 68 [.agg ⟨bxL v⟩,.agg ⟨bxL w⟩]=some (.bool (meetQ v w)):=by
 obtain ⟨a,b,c,d,e,f,g,u,x⟩:=v
 obtain ⟨a2,b2,c2,d2,e2,f2,g2,u2,x2⟩:=w
 have m1:=mm_max a a2
 have m2:=mm_max b b2
 have m3:=mm_max e e2
 have m4:=mm_min c c2
 have m5:=mm_min d d2
 have m6:=mm_min f f2
 rw [pureCall_fn F68 rfl]
 unfold meetQ bxL
 simp only
 generalize max a a2=M1 at *
 generalize max b b2=M2 at *
 generalize max e e2=M3 at *
 generalize min c c2=M4 at *
 generalize min d d2=M5 at *
 generalize min f f2=M6 at *
 by_cases h1:M1<M4
 case neg=>simp -implicitDefEqProofs [r68,p68,m1,m2,m4,m5,h1]
 by_cases h2:M2<M5
 case neg=>simp -implicitDefEqProofs [r68,p68,m1,m2,m4,m5,h1,h2]
 simp -implicitDefEqProofs [r68,p68,m1,m2,m3,m4,m5,m6,h1,h2]
theorem meetQ_V {v w:Vol} (hv:rightV v=true) (hw:rightV w=true):meetQ w v=meetV v w:=by
 rw [rightV_q] at hv hw
 simp only [Bool.and_eq_true,decide_eq_true_eq] at hv hw
 unfold meetQ meetV
 rw [Bool.eq_iff_iff]
 simp only [Bool.and_eq_true,decide_eq_true_eq]
 omega
theorem qletter (c:UInt8):pureCall E.P (L E) 215 [.int .u8 c.toNat]=some (.bool (letB c)):=by
 rw [pureCall_fn F215 rfl]
 unfold letB
 have e1:((97:Int)≤(c.toNat:Int))↔97≤c.toNat:=by omega
 have e2:((c.toNat:Int)≤122)↔c.toNat≤122:=by omega
 by_cases h:97≤c.toNat
 ·have h':=e1.2 h
  simp -implicitDefEqProofs [r215,padS,h,h',e2]
 ·have h':¬ ((97:Int)≤(c.toNat:Int)):=fun q=>h (e1.1 q)
  simp -implicitDefEqProofs [r215,padS,h,h']
theorem qdigit (c:UInt8):pureCall E.P (L E) 216 [.int .u8 c.toNat]=some (.bool (digB c)):=by
 rw [pureCall_fn F216 rfl]
 unfold digB
 have e1:((48:Int)≤(c.toNat:Int))↔48≤c.toNat:=by omega
 have e2:((c.toNat:Int)≤57)↔c.toNat≤57:=by omega
 by_cases h:48≤c.toNat
 ·have h':=e1.2 h
  simp -implicitDefEqProofs [r216,padS,h,h',e2]
 ·have h':¬ ((48:Int)≤(c.toNat:Int)):=fun q=>h (e1.1 q)
  simp -implicitDefEqProofs [r216,padS,h,h']
end Go.Proofs.YtplebjehcgcdeaaGreatDoor.Bm
namespace Go.Proofs.YtplebjehcgcdeaaGreatDoor.Bm
open Go Go.RowKit
open Dw (Vol Ent Phs Drw letB digB ldB wordB nameB resW givesB)
theorem qword_pure (l:List UInt8) (hl:l.length≤1000000):pureCall E.P (L E) 179 [.string ⟨⟨l⟩⟩]=some (.bool (wordB l)):=by
 rw [pureCall_fn F179 rfl]
 cases l with
 | nil=>simp -implicitDefEqProofs [r179,p179,str_size,wordB]
 | cons c r =>
  have lc:=qletter c
  have ix:indexT .str (.string ⟨⟨c :: r⟩⟩) (.int .i64 0)=some (.int .u8 c.toNat):=sv_head
  have h1:¬ (((c :: r).length:Nat):Int)<1:=by rw [List.length_cons];omega
  have hle:((c :: r).length:Int)=(r.length:Int)+1:=by rw [List.length_cons];omega
  have ixs:∀ i (hi:i<r.length),indexT .str (.string ⟨⟨c :: r⟩⟩) (.int .i64 ((i+1:Nat):Int))=some (.int .u8 (r[i]).toNat):=fun i hi=>sv_idx (i:=i+1) (by simp;omega)
  unfold wordB
  simp only
  by_cases h2:(c :: r).length≤20
  case neg =>
   have h2':(20:Int)<(((c :: r).length:Nat):Int):=by omega
   rw [decide_eq_false h2]
   generalize c :: r=l at *
   simp -implicitDefEqProofs [r179,p179,str_size,h1,h2']
  have h2':¬ (20:Int)<(((c :: r).length:Nat):Int):=by omega
  cases h:letB c with
  | false =>
   rw [h] at lc
   generalize c :: r=l at *
   simp -implicitDefEqProofs [r179,p179,str_size,h1,h2',ix,ret0 m215,lc]
  | true =>
   rw [h] at lc
   have hall:(c :: r).all ldB=r.all ldB:=by simp [ldB,h]
   rw [decide_eq_true h2,hall,Bool.true_and,Bool.true_and]
   generalize c :: r=l at *
   simp -implicitDefEqProofs [r179,p179,str_size,h1,h2',ix,ret0 m215,lc]
   rw [LL_for (γ:=Unit) r () (fun i _=>[(3,.int .i64 ((i+1:Nat):Int))]) (fun _ _=>[]) (fun i rest _=>if rest.all ldB then (.exit 0,[(3,undef)],[]) else (.ret,[(2,.bool false),(3,undef)],[])) (fun _ _=>True) (by omega) trivial]
   ·cases ha:r.all ldB with
    | true=>simp -implicitDefEqProofs [k179_4]
    | false=>simp -implicitDefEqProofs [k179_4]
   ·simp -implicitDefEqProofs [k179_4]
   ·rfl
   ·intro nx i u hi _
    have hc:¬ (((i+1:Nat):Int)<(l.length:Int)):=by omega
    simp -implicitDefEqProofs [r179_4,k179_4,str_size,hc,trim_le,-Int.natCast_add]
   ·intro nx i x rest u hi hv hd hw _ ih
    have ih:=ih () trivial
    have hc:(((i+1:Nat):Int)<(l.length:Int)):=by omega
    have xi:=ixs i hi
    rw [hv] at xi
    have lx:=qletter x
    have dx:=qdigit x
    have w1:IntKind.i64.wrap (((i+1:Nat):Int)+1)=((i+1+1:Nat):Int):=(wrap64 (by omega) (by omega)).trans (by omega)
    rw [List.all_cons,show ldB x=(letB x || digB x) from rfl]
    generalize rest.all ldB=RA at *
    simp -implicitDefEqProofs [k179_4,-Int.natCast_add] at ih
    cases hx:letB x with
    | true =>
     rw [hx] at lx
     rw [Bool.true_or,Bool.true_and]
     simp -implicitDefEqProofs [r179_4,k179_4,str_size,hc,xi,ret0 m215,lx,w1,trim_le,-Int.natCast_add]
     exact ih
    | false =>
     rw [hx] at lx
     cases hy:digB x with
     | true =>
      rw [hy] at dx
      rw [Bool.false_or,Bool.true_and]
      simp -implicitDefEqProofs [r179_4,k179_4,str_size,hc,xi,ret0 m215,lx,ret0 m216,dx,w1,trim_le,-Int.natCast_add]
      exact ih
     | false =>
      rw [hy] at dx
      simp -implicitDefEqProofs [r179_4,k179_4,str_size,hc,xi,ret0 m215,lx,ret0 m216,dx,trim_le,-Int.natCast_add]
def findI (s:List UInt8):Nat→List (List UInt8)→Int
 | _,[]=>-1
 | i,x :: r=>if x=s then i else findI s (i+1) r
theorem findI_neg {s:List UInt8}:∀ {l:List (List UInt8)} {i:Nat},(findI s i l<0↔s ∉ l)
 | [],i=>by simp [findI]
 | x :: r,i=>by
  unfold findI
  by_cases h:x=s
  ·rw [if_pos h]
   simp [h]
  ·have h':¬ s=x:=fun q=>h q.symm
   rw [if_neg h,findI_neg (l:=r)]
   simp [h']
def txE:Enc (List UInt8):=⟨fun l=>.string ⟨⟨l⟩⟩,fun _=>rfl,fun _ _=>rfl,fun _ _ _=>rfl,fun _ _=>rfl⟩
theorem qres_pure:pureCall E.P (L E) 181 []=some (lst true (txE.vals resW)):=by
 have bs:∀ h,buildSliceT (some ⟨9,1,16,.string ⟨⟨[]⟩⟩,⟨some false,some 1⟩⟩) false h 27 #[(0,.string ⟨⟨[97,110,100]⟩⟩),(1,.string ⟨⟨[97,112,97,114,116]⟩⟩),(2,.string ⟨⟨[98,97,115,101]⟩⟩),(3,.string ⟨⟨[99,97,112]⟩⟩),(4,.string ⟨⟨[100,101,102,105,110,101]⟩⟩),(5,.string ⟨⟨[101,108,115,101]⟩⟩),(6,.string ⟨⟨[101,120,99,101,112,116]⟩⟩),(7,.string ⟨⟨[102,114,111,109]⟩⟩),(8,.string ⟨⟨[103,114,97,99,101]⟩⟩),(9,.string ⟨⟨[104,111,117,114,115]⟩⟩),(10,.string ⟨⟨[105,102]⟩⟩),(11,.string ⟨⟨[105,110]⟩⟩),(12,.string ⟨⟨[108,101,97,115,116]⟩⟩),(13,.string ⟨⟨[110,111,116]⟩⟩),(14,.string ⟨⟨[111,114]⟩⟩),(15,.string ⟨⟨[111,118,101,114,108,97,121]⟩⟩),(16,.string ⟨⟨[112,108,97,110,101]⟩⟩),(17,.string ⟨⟨[114,117,108,101]⟩⟩),(18,.string ⟨⟨[115,108,111,112,101]⟩⟩),(19,.string ⟨⟨[115,117,110]⟩⟩),(20,.string ⟨⟨[116,97,98,108,101]⟩⟩),(21,.string ⟨⟨[116,104,101,110]⟩⟩),(22,.string ⟨⟨[117,110,116,105,108]⟩⟩),(23,.string ⟨⟨[117,115,101,115]⟩⟩),(24,.string ⟨⟨[118,97,114,121]⟩⟩),(25,.string ⟨⟨[118,105,101,119]⟩⟩),(26,.string ⟨⟨[122,111,110,101]⟩⟩)]=some (lst true (txE.vals resW),h):=fun h =>
  (build_lit' (n:=27) (l:=[(0,.string ⟨⟨[97,110,100]⟩⟩),(1,.string ⟨⟨[97,112,97,114,116]⟩⟩),(2,.string ⟨⟨[98,97,115,101]⟩⟩),(3,.string ⟨⟨[99,97,112]⟩⟩),(4,.string ⟨⟨[100,101,102,105,110,101]⟩⟩),(5,.string ⟨⟨[101,108,115,101]⟩⟩),(6,.string ⟨⟨[101,120,99,101,112,116]⟩⟩),(7,.string ⟨⟨[102,114,111,109]⟩⟩),(8,.string ⟨⟨[103,114,97,99,101]⟩⟩),(9,.string ⟨⟨[104,111,117,114,115]⟩⟩),(10,.string ⟨⟨[105,102]⟩⟩),(11,.string ⟨⟨[105,110]⟩⟩),(12,.string ⟨⟨[108,101,97,115,116]⟩⟩),(13,.string ⟨⟨[110,111,116]⟩⟩),(14,.string ⟨⟨[111,114]⟩⟩),(15,.string ⟨⟨[111,118,101,114,108,97,121]⟩⟩),(16,.string ⟨⟨[112,108,97,110,101]⟩⟩),(17,.string ⟨⟨[114,117,108,101]⟩⟩),(18,.string ⟨⟨[115,108,111,112,101]⟩⟩),(19,.string ⟨⟨[115,117,110]⟩⟩),(20,.string ⟨⟨[116,97,98,108,101]⟩⟩),(21,.string ⟨⟨[116,104,101,110]⟩⟩),(22,.string ⟨⟨[117,110,116,105,108]⟩⟩),(23,.string ⟨⟨[117,115,101,115]⟩⟩),(24,.string ⟨⟨[118,97,114,121]⟩⟩),(25,.string ⟨⟨[118,105,101,119]⟩⟩),(26,.string ⟨⟨[122,111,110,101]⟩⟩)]) rfl rfl (by decide) (by decide) (by decide)).trans rfl
 have rl:∀ h,reifyR E.P h (lst true (txE.vals resW))=some (lst true (txE.vals resW)):=fun h=>rfl
 rw [pureCall_fn F181 rfl]
 generalize lst true (txE.vals resW)=RW at *
 simp -implicitDefEqProofs [r181,p181,bs,rl]
theorem qfind_pure {x:Bool} (l:List (List UInt8)) (s:List UInt8) (hl:l.length≤1000000):pureCall E.P (L E) 180 [lst x (txE.vals l),.string ⟨⟨s⟩⟩]=some (.int .i64 (findI s 0 l)):=by
 have ll:∀ h,lenT .sl h (lst x (txE.vals l))=some (.int .i64 l.length):=fun h=>Enc.o_len (O:=txE) (k:=some x) (fun q=>by cases q)
 have ix:=fun (i:Nat) (hi:i<l.length)=>Enc.index_tree (O:=txE) (x:=x) (t:=9) (k:=.i64) hi
 rw [pureCall_fn F180 rfl]
 generalize lst x (txE.vals l)=VL at *
 simp -implicitDefEqProofs [r180,p180]
 rw [LL_for (γ:=Unit) l () (fun i _=>[(5,.int .i64 (i:Int))]) (fun _ _=>[]) (fun i rest _=>if s∈rest then (.ret,[(4,.int .i64 (findI s i rest)),(5,undef)],[]) else (.exit 0,[(5,undef)],[])) (fun _ _=>True) (by omega) trivial]
 ·by_cases hm:s∈l
  ·rw [if_pos hm]
   simp -implicitDefEqProofs [k180_2]
  ·have e:findI s 0 l = -1:=by
    clear ll ix
    generalize 0=i
    induction l generalizing i with
    | nil=>rfl
    | cons y r ih =>
     simp only [List.mem_cons,not_or] at hm
     have h':¬ y=s:=fun q=>hm.1 q.symm
     unfold findI
     rw [if_neg h']
     exact ih (by simp only [List.length_cons] at hl;omega) hm.2 _
   rw [if_neg hm,e]
   simp -implicitDefEqProofs [k180_2]
 ·simp -implicitDefEqProofs [k180_2]
 ·rfl
 ·intro nx i c hi _
  simp -implicitDefEqProofs [r180_2,k180_2,hi,ll,trim_le]
 ·intro nx i y rest u hi hv hd hw _ ih
  have ih:=ih () trivial
  have xi:=ix i hi
  rw [hv] at xi
  change _=some (cptr (.string ⟨⟨y⟩⟩)) at xi
  have hii:((i:Nat):Int)<(l.length:Int):=by omega
  simp -implicitDefEqProofs [k180_2] at ih
  by_cases hy:y=s
  ·subst hy
   have e:findI y i (y :: rest)=i:=by unfold findI;rw [if_pos rfl]
   rw [e]
   simp -implicitDefEqProofs [r180_2,k180_2,hii,ll,xi,trim_le]
  ·have hy':¬ s=y:=fun q=>hy q.symm
   have e:findI s i (y :: rest)=findI s (i+1) rest:=by
    show (if y=s then (i:Int) else _)=_
    rw [if_neg hy]
   have em:(s∈y :: rest)=(s∈rest):=by simp [hy']
   rw [e]
   simp only [em]
   simp -implicitDefEqProofs [r180_2,k180_2,hii,ll,xi,hy,hw,trim_le]
   exact ih
theorem qname_pure (l:List UInt8) (hl:l.length≤1000000):pureCall E.P (L E) 134 [.string ⟨⟨l⟩⟩]=some (.bool (nameB l)):=by
 have hw:=qword_pure l hl
 have hr:=qres_pure
 have rl:∀ h,reify E.P 8 h (lst true (txE.vals resW))=some (lst true (txE.vals resW)):=fun h=>rfl
 have hf:=qfind_pure (x:=true) resW l (by decide)
 have hn:=findI_neg (s:=l) (l:=resW) (i:=0)
 rw [pureCall_fn F134 rfl]
 unfold nameB
 generalize lst true (txE.vals resW)=RW at *
 generalize findI l 0 resW=z at *
 cases h:wordB l with
 | false=>simp -implicitDefEqProofs [r134,p134,ret0 m179,hw,h]
 | true =>
  by_cases hz:z<0
  ·have hm:=hn.1 hz
   simp -implicitDefEqProofs [r134,p134,ret0 m179,hw,h,ret1s m181,hr,rl,ret0 m180,hf,hz,hm]
  ·have hm:l∈resW:=Classical.not_not.1 fun q=>hz (hn.2 q)
   simp -implicitDefEqProofs [r134,p134,ret0 m179,hw,h,ret1s m181,hr,rl,ret0 m180,hf,hz,hm]
end Go.Proofs.YtplebjehcgcdeaaGreatDoor.Bm
namespace Go.Proofs.YtplebjehcgcdeaaGreatDoor.Bm
open Go Go.RowKit
open Dw (Vol Ent Phs Drw nameB givesB phsB)
theorem qgives_pure {x:Bool} (l:List Ent) (hl:l.length≤1000000) (hn:∀ e∈l,e.1.length≤1000000):pureCall E.P (L E) 69 [lst x (entR.vals l)]=some (.bool (givesB [] l && decide (l.length≤30))):=by
 have ll:∀ h,lenT .sl h (lst x (entR.vals l))=some (.int .i64 l.length):=fun h=>Rec.tree_len
 have ix:=fun (i:Nat) (hi:i<l.length)=>Rec.index_tree (R:=entR) (h0:=2) (x:=x) (t:=tE) (k:=.i64) rfl hi
 have f0:∀ e:Ent,fieldAddrT ⟨some true,some 2⟩ (some (0,⟨some false,some 1⟩)) (cptr (entR.val e))=some (cptr (.string ⟨⟨e.1⟩⟩)):=fun e=>rfl
 have f1:∀ e:Ent,fieldAddrT ⟨some true,some 2⟩ (some (1,⟨some false,some 1⟩)) (cptr (entR.val e))=some (cptr (.int .i64 e.2)):=fun e=>rfl
 rw [pureCall_fn F69 rfl]
 generalize lst x (entR.vals l)=VL at *
 simp -implicitDefEqProofs [r69,padS]
 rw [LL_for (γ:=Unit) l () (fun i _=>[(3,.int .i64 (i:Int))]) (fun _ _=>[]) (fun i rest _=>if givesB ((l.take i).map (·.1)) rest then (.exit 0,[(3,undef)],[]) else (.ret,[(2,.bool false),(3,undef)],[])) (fun _ _=>True) (by omega) trivial]
 ·rw [List.take_zero,List.map_nil]
  cases hg:givesB [] l with
  | false=>simp -implicitDefEqProofs [k69_2]
  | true =>
   by_cases h30:l.length≤30
   ·have h30':(l.length:Int)≤30:=by omega
    simp -implicitDefEqProofs [k69_2,ll,h30,h30']
   ·have h30':¬ (l.length:Int)≤30:=by omega
    simp -implicitDefEqProofs [k69_2,ll,h30,h30']
 ·simp -implicitDefEqProofs [k69_2]
 ·rfl
 ·intro nx i c hi _
  simp -implicitDefEqProofs [r69_2,k69_2,hi,ll,trim_le,givesB]
 ·intro nx i e rest u hi hv hd hw _ ih
  have ih:=ih () trivial
  have xi:=ix i hi
  rw [hv] at xi
  have hii:((i:Nat):Int)<(l.length:Int):=by omega
  have nm:=qname_pure e.1 (hn e (by rw [← hv];exact List.getElem_mem hi))
  have wi:=qwithin e.2 0 1073741824
  have hpre:(l.take (i+1)).map (·.1)=(l.take i).map (·.1)++[e.1]:=by
   rw [List.take_add_one,List.getElem?_eq_getElem hi,hv];simp
  rw [hpre] at ih
  have eG:givesB ((l.take i).map (·.1)) (e :: rest)=(!decide (e.1∈(l.take i).map (·.1)) && nameB e.1 && decide (0≤e.2) && decide (e.2≤1073741824) && givesB ((l.take i).map (·.1)++[e.1]) rest):=rfl
  rw [eG]
  have fe0:=f0 e
  have fe1:=f1 e
  have iy:∀ j,j<i→∃ y:Ent,l[j]?=some y∧indexAddrT (.sl tE ⟨some true,some 2⟩) VL (.int .i64 (j:Int))=some (cptr (entR.val y))∧fieldAddrT ⟨some true,some 2⟩ (some (0,⟨some false,some 1⟩)) (cptr (entR.val y))=some (cptr (.string ⟨⟨y.1⟩⟩)):=fun j hj=>⟨l[j],List.getElem?_eq_getElem (by omega),ix j (by omega),f0 _⟩
  generalize givesB ((l.take i).map (·.1)++[e.1]) rest=G at *
  simp -implicitDefEqProofs [k69_2] at ih
  cases h1:nameB e.1 with
  | false =>
   rw [h1] at nm
   generalize entR.val e=VE at *
   simp -implicitDefEqProofs [r69_2,k69_2,hii,ll,xi,fe0,fe1,ret0 m134,nm,trim_le]
  | true =>
  rw [h1] at nm
  cases h2:(decide (0≤e.2) && decide (e.2≤1073741824)) with
  | false =>
   rw [h2] at wi
   have h3:(!decide (e.1∈(l.take i).map (·.1)) && true && decide (0≤e.2) && decide (e.2≤1073741824) && G)=false:=by
    rw [Bool.and_assoc _ (decide (0≤e.2)),h2];simp
   rw [h3]
   generalize entR.val e=VE at *
   simp -implicitDefEqProofs [r69_2,k69_2,hii,ll,xi,fe0,fe1,ret0 m134,nm,ret0 m60,wi,trim_le]
  | true =>
  rw [h2] at wi
  have h3:(!decide (e.1∈(l.take i).map (·.1)) && true && decide (0≤e.2) && decide (e.2≤1073741824) && G)=(!decide (e.1∈(l.take i).map (·.1)) && G):=by
   rw [Bool.and_assoc _ (decide (0≤e.2)),h2];simp
  rw [h3]
  obtain ⟨B,hB⟩:∃ B:Bool,decide (e.1∈(l.take i).map (·.1))=B:=⟨_,rfl⟩
  rw [hB]
  generalize entR.val e=VE at *
  simp -implicitDefEqProofs [r69_2,k69_2,hii,ll,xi,fe0,fe1,ret0 m134,nm,ret0 m60,wi]
  rw [LL_for (γ:=Unit) (l.take i) () (fun j _=>[(4,.int .i64 (j:Int))]) (fun _ _=>[]) (fun j rest _=>if e.1∈rest.map (·.1) then (.ret,[(2,.bool false),(4,undef)],[]) else (.exit 2,[(4,undef)],[])) (fun _ _=>True) (by rw [List.length_take];omega) trivial]
  ·by_cases hm:e.1∈(l.take i).map (·.1)
   ·rw [decide_eq_true hm] at hB
    subst hB
    rw [if_pos hm]
    simp -implicitDefEqProofs [k69_2,k69_7,trim_le]
   ·rw [decide_eq_false hm] at hB
    subst hB
    rw [if_neg hm]
    simp -implicitDefEqProofs [k69_2,k69_7,hw,trim_le]
    exact ih
  ·simp -implicitDefEqProofs [k69_7]
  ·rfl
  ·intro nx j c hj _
   have hj':¬ ((j:Nat):Int)<(i:Int):=by rw [List.length_take] at hj;omega
   simp -implicitDefEqProofs [r69_7,k69_7,hj',trim_le]
  ·intro nx j y rest u hj hy hd2 hw2 _ ih2
   have ih2:=ih2 () trivial
   have hj':j<i:=by rw [List.length_take] at hj;omega
   have hji:((j:Nat):Int)<(i:Int):=by omega
   obtain ⟨y',hy',xj,fy⟩:=iy j hj'
   have e1:y'=y:=by
    have:(l.take i)[j]?=some y:=by rw [List.getElem?_eq_getElem hj,hy]
    rw [List.getElem?_take_of_lt hj',hy'] at this
    exact Option.some.inj this
   subst e1
   generalize entR.val y'=VY at *
   simp -implicitDefEqProofs [k69_7] at ih2
   by_cases hq:y'.1=e.1
   ·have em:e.1∈(y' :: rest).map (·.1):=by rw [List.map_cons,hq];simp
    rw [if_pos em]
    simp -implicitDefEqProofs [r69_7,k69_7,hji,xi,xj,fe0,fy,hq,trim_le]
   ·have em:(e.1∈(y' :: rest).map (·.1))=(e.1∈rest.map (·.1)):=by
     rw [List.map_cons,List.mem_cons]
     exact propext ⟨fun h=>h.elim (fun h=>absurd h.symm hq) id,.inr⟩
    simp only [em]
    simp -implicitDefEqProofs [r69_7,k69_7,hji,xi,xj,fe0,fy,str_inj,hq,hw2,trim_le]
    exact ih2
end Go.Proofs.YtplebjehcgcdeaaGreatDoor.Bm
namespace Go.Proofs.YtplebjehcgcdeaaGreatDoor.Bm
open Go Go.RowKit
open Dw (Vol Ent Phs Drw rightV meetV volsB givesB phsB formB)
theorem qvols_spec (k:Option Bool) (d:Drw) (f t:Int) (hk:Rec.Ok k d.phs) (hp:d.phs.length≤1000000) (hv:d.all.length≤1000000) :
  pureCall E.P (L E) 27 [drV k d,.int .i64 f,.int .i64 t]=some (lst false (volR.vals (vfrom 0 f t d.phs))):=by
 obtain ⟨lot,phs⟩:=d
 unfold Dw.Drw.all at hv
 simp only at hk hp hv
 have ll:∀ h,lenT .sl h (phR.o k phs)=some (.int .i64 phs.length):=fun h=>Rec.o_len hk
 have ix:=fun (i:Nat) (hi:i<phs.length)=>Rec.o_index (R:=phR) (s:=2) (t:=tP) (kk:=.i64) rfl hk hi
 have sn:szOf E.P tV=some (8+1):=sVol
 have esl:Value.slice (some ⟨1,0,some 0⟩) 0 0=volR.sl 1 []:=rfl
 have erow:AObj.cells tV [] (8+1)=volR.row tV []:=rfl
 have ld:∀ X,loadT ⟨some false,some 1⟩ (AObj.cells tD [.int .i64 lot,phR.o k phs] 0 :: X) (.pointer (some ⟨0,1,none⟩))=some (phR.o k phs):=fun X=>obj_load (j:=1) (t:=tD) (c:=[.int .i64 lot,phR.o k phs]) rfl rfl
 rw [pureCall_fn F27 rfl]
 unfold drV
 simp only
 have bP:∀ d n,below (d+1) n (phR.o k phs)=true:=fun d n=>Rec.o_bel
 generalize phR.o k phs=VP at *
 simp -implicitDefEqProofs [r27,p27,prep_new,newK_nil sn,esl,erow]
 rw [LL_for (γ:=List Vol) phs [] (fun i c=>[(7,volR.sl 1 c),(8,.int .i64 (i:Int))]) (fun _ c=>[.cells tD [.int .i64 lot,VP] 0,volR.row tV c]) (fun i rest c=>(.exit 0,[(7,volR.sl 1 (c++vfrom i f t rest)),(8,undef)],[.cells tD [.int .i64 lot,VP] 0,volR.row tV (c++vfrom i f t rest)]))
  (fun i c=>c.length+((phs.drop i).flatMap Phs.vols).length≤1000000) (by omega) (by simpa using hv)]
 ·have rr:=Rec.reifyR_row (R:=volR) (P:=E.P) (h:=[.cells tD [.int .i64 lot,VP] 0,volR.row tV ([]++vfrom 0 f t phs)]) (b:=1) rfl sVol aVol
  rw [List.nil_append] at rr ⊢
  generalize vfrom 0 f t phs=out at *
  simp -implicitDefEqProofs [k27_3,rr]
 ·simp -implicitDefEqProofs [k27_3]
 ·rfl
 ·intro nx i c hi _
  simp -implicitDefEqProofs [r27_3,k27_3,hi,ld,ll,trim_le,vfrom]
 ·intro nx i p rest c hi hv2 hd hw hinv ih
  rw [hd,List.flatMap_cons,List.length_append] at hinv
  have hd2:phs.drop (i+1)=rest:=by
   have:=congrArg List.tail hd
   simpa [List.tail_drop] using this
  have xi:=ix i hi
  rw [hv2,ph_val] at xi
  have f0:∀ X Y,fieldAddrT ⟨some true,some 2⟩ (some (0,⟨some false,some 1⟩)) (cptr (.agg ⟨[lst false X,Y]⟩))=some (cptr (lst false X)):=fun X Y=>rfl
  have lf:∀ X h,loadT ⟨some false,some 1⟩ h (cptr (lst false X))=some (lst false X):=fun X h=>rfl
  have ap:=fun (A:AObj)=>app_vs (h:=[A,volR.row tV c]) (b:=1) (lo:=0) (c:=c) (m:=p.vols) rfl (Nat.zero_le _) (by omega)
  have hii:((i:Nat):Int)<(phs.length:Int):=by omega
  have bl:∀ n,belowO n (.cells tD [.int .i64 lot,VP] 0)=true:=fun n=>by show ([_,_]:List Value).all (below 8 n)=true;simp only [List.all_cons,List.all_nil,bP,bel_int,Bool.and_self]
  have bD:∀ n,below 8 n (.agg ⟨[.int .i64 lot,VP]⟩)=true:=fun n=>by show ([_,_]:List Value).all (below 7 n)=true;simp only [List.all_cons,List.all_nil,bP,bel_int,Bool.and_self]
  have f0:=f0 (volR.vals p.vols) (lst false (entR.vals p.gives))
  have lf:=lf (volR.vals p.vols)
  unfold vfrom
  generalize lst false (entR.vals p.gives)=VG at *
  generalize lst false (volR.vals p.vols)=VW at *
  by_cases q1:f≤(i:Int)
  ·by_cases q2:(i:Int)<t
   ·rw [if_pos ⟨q1,q2⟩,← List.append_assoc]
    have ih:=ih (c++p.vols) (by rw [hd2,List.length_append];omega)
    simp -implicitDefEqProofs [k27_3,-List.append_assoc] at ih
    simp -implicitDefEqProofs [r27_3,k27_3,hii,ld,ll,xi,f0,lf,q1,q2,ap,hw,trim_le,-List.append_assoc]
    exact ih
   ·rw [if_neg (fun q=>q2 q.2),List.nil_append]
    have ih:=ih c (by rw [hd2];omega)
    simp -implicitDefEqProofs [k27_3,-List.append_assoc] at ih
    simp -implicitDefEqProofs [r27_3,k27_3,hii,ld,ll,q1,q2,hw,trim_le,-List.append_assoc]
    exact ih
  ·rw [if_neg (fun q=>q1 q.1),List.nil_append]
   have ih:=ih c (by rw [hd2];omega)
   simp -implicitDefEqProofs [k27_3,-List.append_assoc] at ih
   simp -implicitDefEqProofs [r27_3,k27_3,hii,ld,ll,q1,hw,trim_le,-List.append_assoc]
   exact ih
theorem form_q (d:Drw):formB d=((decide (0≤d.lot) && decide (d.lot≤1073741824)) && ((decide (1≤(d.phs.length:Int)) && decide ((d.phs.length:Int)≤8)) && ((decide (1≤(d.all.length:Int)) && decide ((d.all.length:Int)≤40)) && (volsB [] d.all && d.phs.all phsB)))):=by
 unfold formB
 rw [Bool.eq_iff_iff]
 simp only [Bool.and_eq_true,decide_eq_true_eq]
 constructor
 ·rintro ⟨⟨⟨⟨⟨⟨⟨h1,h2⟩,h3⟩,h4⟩,h5⟩,h6⟩,h7⟩,h8⟩
  exact ⟨⟨h1,h2⟩,⟨by omega,by omega⟩,⟨by omega,by omega⟩,h7,h8⟩
 ·rintro ⟨⟨h1,h2⟩,⟨h3,h4⟩,⟨h5,h6⟩,h7,h8⟩
  exact ⟨⟨⟨⟨⟨⟨⟨h1,h2⟩,by omega⟩,by omega⟩,by omega⟩,by omega⟩,h7⟩,h8⟩
theorem qform_pure (k:Option Bool) (d:Drw) (hk:Rec.Ok k d.phs) (hp:d.phs.length≤1000000) (hv:d.all.length≤1000000) (hg:∀ p∈d.phs,p.gives.length≤1000000∧∀ e∈p.gives,e.1.length≤1000000) :
  pureCall E.P (L E) 22 [drV k d]=some (.bool (formB d)):=by
 have al:=qvols_spec k d 0 (d.phs.length:Int) hk hp hv
 rw [vfrom_all _ _ _ (by omega)] at al
 change _=some (lst false (volR.vals d.all)) at al
 have hrf:∀ h,reify E.P 8 h (drV k d)=some (drV k d):=fun h=>by
  have hs:([.int .i64 d.lot,phR.o k d.phs]:List Value).all (settled 8)=true:=by
   simp only [List.all_cons,List.all_nil,Bool.and_true,Bool.and_eq_true]
   exact ⟨rfl,Rec.o_set⟩
  unfold drV
  rw [reify_agg,reifyC_set hs];rfl
 have hs:settled 8 (drV k d)=true:=by
  show ([_,_]:List Value).all (settled 7)=true
  simp only [List.all_cons,List.all_nil,Bool.and_true,Bool.and_eq_true]
  exact ⟨rfl,Rec.o_set⟩
 rw [form_q]
 have w1:=qwithin d.lot 0 1073741824
 have w2:=qwithin (d.phs.length:Int) 1 8
 have w3:=qwithin (d.all.length:Int) 1 40
 generalize (decide (0≤d.lot) && decide (d.lot≤1073741824))=W1 at *
 generalize (decide (1≤(d.phs.length:Int)) && decide ((d.phs.length:Int)≤8))=W2 at *
 generalize (decide (1≤(d.all.length:Int)) && decide ((d.all.length:Int)≤40))=W3 at *
 generalize hL:d.all=l at *
 obtain ⟨lot,phs⟩:=d
 simp only at hk hp hg w1 w2 w3 hrf hs al ⊢
 clear hL
 have ll:∀ h,lenT .sl h (phR.o k phs)=some (.int .i64 phs.length):=fun h=>Rec.o_len hk
 have lv:∀ h,lenT .sl h (lst false (volR.vals l))=some (.int .i64 l.length):=fun h=>Rec.tree_len
 have ix:=fun (i:Nat) (hi:i<phs.length)=>Rec.o_index (R:=phR) (s:=2) (t:=tP) (kk:=.i64) rfl hk hi
 have iv:=fun (i:Nat) (hi:i<l.length)=>Rec.index_tree (R:=volR) (h0:=9) (x:=false) (t:=tV) (k:=.i64) rfl hi
 have rV:∀ h,reify E.P 8 h (lst false (volR.vals l))=some (lst false (volR.vals l)):=fun h=>rfl
 unfold drV at *
 simp only at *
 have bP:∀ d n,below (d+1) n (phR.o k phs)=true:=fun d n=>Rec.o_bel
 generalize phR.o k phs=VP at *
 generalize hVL:lst false (volR.vals l)=VL at *
 obtain ⟨A0,hA⟩:∃ A,AObj.cells tD [.int .i64 lot,VP] 0=A:=⟨_,rfl⟩
 have ld0:∀ X,loadT ⟨some false,some 1⟩ (A0 :: X) (.pointer (some ⟨0,0,none⟩))=some (.int .i64 lot):=fun X=>by rw [← hA];exact obj_load (j:=0) (t:=tD) (c:=[.int .i64 lot,VP]) rfl rfl
 have ld:∀ X,loadT ⟨some false,some 1⟩ (A0 :: X) (.pointer (some ⟨0,1,none⟩))=some VP:=fun X=>by rw [← hA];exact obj_load (j:=1) (t:=tD) (c:=[.int .i64 lot,VP]) rfl rfl
 have la:∀ X,loadT ⟨some true,some 2⟩ (A0 :: X) (.pointer (some ⟨0,0,none⟩))=some (.agg ⟨[.int .i64 lot,VP]⟩):=fun X=>by rw [← hA];exact obj_all (n:=2) (t:=tD) (c:=[.int .i64 lot,VP]) rfl rfl
 have oVL:one VL=true:=by rw [← hVL];rfl
 rw [pureCall_fn F22 rfl]
 cases W1 with
 | false=>simp -implicitDefEqProofs [r22,p22,hA,ld0,ld,la,ll,hs,ret1s m27,ret0 m60,al,w1,-reify_agg]
 | true =>
 cases W2 with
 | false=>simp -implicitDefEqProofs [r22,p22,hA,ld0,ld,la,ll,hs,ret1s m27,ret0 m60,al,w1,w2,-reify_agg]
 | true =>
 cases W3 with
 | false=>simp -implicitDefEqProofs [r22,p22,hA,ld0,ld,la,ll,lv,hs,ret1s m27,ret0 m60,al,w1,w2,w3,-reify_agg]
 | true =>
 rw [Bool.true_and,Bool.true_and,Bool.true_and]
 simp -implicitDefEqProofs [r22,p22,hA,ld0,ld,la,ll,lv,hs,ret1s m27,ret0 m60,al,w1,w2,w3,-reify_agg]
 rw [LL_for (γ:=Unit) l () (fun i _=>[(4,.int .i64 (i:Int))]) (fun _ _=>[A0]) (fun i rest _=>if volsB (l.take i) rest then (.exit 0,[(4,undef)],[A0]) else (.ret,[(2,.bool false),(4,undef)],[A0])) (fun i _=>∀ w∈l.take i,rightV w=true) (by omega) (by simp)]
 ·rw [List.take_zero]
  cases hvb:volsB [] l with
  | false=>simp -implicitDefEqProofs [k22_5]
  | true =>
   simp -implicitDefEqProofs [k22_5]
   rw [LL_for (γ:=Unit) phs () (fun i _=>[(6,.int .i64 (i:Int))]) (fun _ _=>[A0]) (fun i rest _=>if rest.all phsB then (.exit 4,[(6,undef)],[A0]) else (.ret,[(2,.bool false),(6,undef)],[A0])) (fun i _=>True) (by omega) trivial]
   ·cases hpb:phs.all phsB with
    | false=>simp -implicitDefEqProofs [k22_15]
    | true=>simp -implicitDefEqProofs [k22_15]
   ·simp -implicitDefEqProofs [k22_15]
   ·rfl
   ·intro nx i c hi _
    simp -implicitDefEqProofs [r22_15,k22_15,hi,ld,ll,trim_le]
   ·intro nx i q rest u hi hv2 hd hw _ ih
    have ih:=ih () trivial
    have xi:=ix i hi
    rw [hv2,ph_val] at xi
    obtain ⟨hg1,hg2⟩:=hg q (by rw [← hv2];exact List.getElem_mem hi)
    obtain ⟨qv,qg⟩:=q
    simp only at xi hg1 hg2
    have f1:∀ X Y,fieldAddrT ⟨some true,some 2⟩ (some (1,⟨some false,some 1⟩)) (cptr (.agg ⟨[X,lst false Y]⟩))=some (cptr (lst false Y)):=fun X Y=>rfl
    have f1:=f1 (lst false (volR.vals qv)) (entR.vals qg)
    have lf:∀ h,loadT ⟨some false,some 1⟩ h (cptr (lst false (entR.vals qg)))=some (lst false (entR.vals qg)):=fun h=>rfl
    have rg:∀ h,reify E.P 8 h (lst false (entR.vals qg))=some (lst false (entR.vals qg)):=fun h=>rfl
    have gp:=qgives_pure (x:=false) qg hg1 hg2
    have hii:((i:Nat):Int)<(phs.length:Int):=by omega
    rw [List.all_cons,show phsB ⟨qv,qg⟩=(givesB [] qg && decide (qg.length≤30)) from rfl]
    generalize rest.all phsB=RA at *
    generalize (givesB [] qg && decide (qg.length≤30))=GB at *
    generalize lst false (volR.vals qv)=VW at *
    generalize lst false (entR.vals qg)=VG at *
    cases GB with
    | false=>simp -implicitDefEqProofs [r22_15,k22_15,hii,ld,ll,xi,f1,lf,rg,ret0 m69,gp,trim_le]
    | true =>
     rw [Bool.true_and]
     simp -implicitDefEqProofs [k22_15] at ih
     simp -implicitDefEqProofs [r22_15,k22_15,hii,ld,ll,xi,f1,lf,rg,ret0 m69,gp,hw,trim_le]
     exact ih
 ·simp -implicitDefEqProofs [k22_5]
 ·rfl
 ·intro nx i c hi _
  simp -implicitDefEqProofs [r22_5,k22_5,hi,lv,trim_le,volsB]
 ·intro nx i v rest u hi hv2 hd hw hinv ih
  have hsn:l.take (i+1)=l.take i++[v]:=by
   rw [List.take_add_one,List.getElem?_eq_getElem hi,hv2];rfl
  have xi:=iv i hi
  rw [hv2] at xi
  change _=some (cptr (.agg ⟨volR.enc v⟩)) at xi
  have rv:=qvol v
  have fit:fitsTT ⟨some true,some 9⟩ (.agg ⟨volR.enc v⟩)=true:=rfl
  have rf:∀ h,reify E.P 8 h (.agg ⟨volR.enc v⟩)=some (.agg ⟨volR.enc v⟩):=fun h=>rfl
  have e1:fieldAddrT ⟨some true,some 9⟩ (some (0,⟨some true,some 6⟩)) (cptr (.agg ⟨volR.enc v⟩))=some (cptr (.agg ⟨bxL v⟩)):=rfl
  have e2:∀ h,loadT ⟨some true,some 6⟩ h (cptr (.agg ⟨bxL v⟩))=some (.agg ⟨bxL v⟩):=fun h=>rfl
  have e3:∀ h,reify E.P 8 h (.agg ⟨bxL v⟩)=some (.agg ⟨bxL v⟩):=fun h=>rfl
  have iy:∀ j,j<i→∃ y:Vol,l[j]?=some y∧indexAddrT (.sl tV ⟨some true,some 9⟩) VL (.int .i64 (j:Int))=some (cptr (.agg ⟨volR.enc y⟩)):=fun j hj=>⟨l[j],List.getElem?_eq_getElem (by omega),iv j (by omega)⟩
  have ey:∀ y:Vol,fieldAddrT ⟨some true,some 9⟩ (some (0,⟨some true,some 6⟩)) (cptr (.agg ⟨volR.enc y⟩))=some (cptr (.agg ⟨bxL y⟩)):=fun y=>rfl
  have ey2:∀ (y:Vol) h,loadT ⟨some true,some 6⟩ h (cptr (.agg ⟨bxL y⟩))=some (.agg ⟨bxL y⟩):=fun y h=>rfl
  have ey3:∀ (y:Vol) h,reify E.P 8 h (.agg ⟨bxL y⟩)=some (.agg ⟨bxL y⟩):=fun y h=>rfl
  have hii:((i:Nat):Int)<(l.length:Int):=by omega
  have eV:volsB (l.take i) (v :: rest)=(rightV v && !(l.take i).any (fun w=>meetV v w) && volsB (l.take i++[v]) rest):=rfl
  rw [eV]
  rw [hsn] at ih
  cases h1:rightV v with
  | false =>
   rw [h1] at rv
   generalize volR.enc v=LV at *
   simp -implicitDefEqProofs [r22_5,k22_5,hii,lv,xi,fit,rf,ret0 m29,rv,trim_le]
  | true =>
  rw [h1] at rv
  have hinv2:∀ w∈l.take i++[v],rightV w=true:=fun w hw=>by
   rcases List.mem_append.1 hw with q | q
   ·exact hinv w q
   ·rw [List.mem_singleton.1 q];exact h1
  have ih:=ih () hinv2
  rw [Bool.true_and]
  have my:∀ y:Vol,y∈l.take i→pureCall E.P (L E) 68 [.agg ⟨bxL y⟩,.agg ⟨bxL v⟩]=some (.bool (meetV v y)):=fun y hy=>by
   rw [← meetQ_V h1 (hinv y hy)];exact qmeet y v
  obtain ⟨B,hB⟩:∃ B:Bool,(l.take i).any (fun w=>meetV v w)=B:=⟨_,rfl⟩
  rw [hB]
  generalize volsB (l.take i++[v]) rest=G at *
  generalize volR.enc v=LV at *
  generalize bxL v=BV at *
  simp -implicitDefEqProofs [k22_5] at ih
  simp -implicitDefEqProofs [r22_5,k22_5,hii,lv,xi,fit,rf,ret0 m29,rv]
  rw [LL_for (γ:=Unit) (l.take i) () (fun j _=>[(5,.int .i64 (j:Int))]) (fun _ _=>[A0]) (fun j rest _=>if rest.any (fun w=>meetV v w) then (.ret,[(2,.bool false),(5,undef)],[A0]) else (.exit 2,[(5,undef)],[A0])) (fun _ _=>True) (by rw [List.length_take];omega) trivial]
  ·rw [hB]
   cases B with
   | true=>simp -implicitDefEqProofs [k22_10,trim_le]
   | false =>
    simp -implicitDefEqProofs [k22_5,k22_10,hw,trim_le]
    exact ih
  ·simp -implicitDefEqProofs [k22_10]
  ·rfl
  ·intro nx j c hj _
   have hj':¬ ((j:Nat):Int)<(i:Int):=by rw [List.length_take] at hj;omega
   simp -implicitDefEqProofs [r22_10,k22_10,hj',trim_le]
  ·intro nx j y rest u hj hy hd2 hw2 _ ih2
   have ih2:=ih2 () trivial
   have hj':j<i:=by rw [List.length_take] at hj;omega
   have hji:((j:Nat):Int)<(i:Int):=by omega
   obtain ⟨y',hy',xj⟩:=iy j hj'
   have e4:y'=y:=by
    have:(l.take i)[j]?=some y:=by rw [List.getElem?_eq_getElem hj,hy]
    rw [List.getElem?_take_of_lt hj',hy'] at this
    exact Option.some.inj this
   subst e4
   have m1:=my y' (by rw [← hy];exact List.getElem_mem hj)
   have ey:=ey y'
   have ey2:=ey2 y'
   have ey3:=ey3 y'
   rw [List.any_cons]
   generalize volR.enc y'=LY at *
   generalize bxL y'=BY at *
   generalize rest.any (fun w=>meetV v w)=RA at *
   simp -implicitDefEqProofs [k22_10] at ih2
   cases hm:meetV v y' with
   | true =>
    rw [hm] at m1
    simp -implicitDefEqProofs [r22_10,k22_10,hji,xi,xj,e1,e2,e3,ey,ey2,ey3,ret0 m68,m1,trim_le]
   | false =>
    rw [hm] at m1
    rw [Bool.false_or]
    simp -implicitDefEqProofs [r22_10,k22_10,hji,xi,xj,e1,e2,e3,ey,ey2,ey3,ret0 m68,m1,hw2,trim_le]
    exact ih2
end Go.Proofs.YtplebjehcgcdeaaGreatDoor.Bm
namespace Go.Proofs.YtplebjehcgcdeaaGreatDoor.Bm
open Go Go.RowKit
open Dw (Vol Ent Phs Drw encI encN encT encL encV encE encP formB rightV)
abbrev elI:El:=⟨3,1,8,.int .i64 0,⟨some false,some 1⟩⟩
theorem live9 (h:Heap) (a0 a1 a2 a3 a4 a5 a6 a7 a8:Int):buildSliceT (some elI) true h 9 #[(0,.int .i64 a0),(1,.int .i64 a1),(2,.int .i64 a2),(3,.int .i64 a3),(4,.int .i64 a4),(5,.int .i64 a5),(6,.int .i64 a6),(7,.int .i64 a7),(8,.int .i64 a8)]=some (Enc.sl h.length [a0,a1,a2,a3,a4,a5,a6,a7,a8],h++[intE.row 3 [a0,a1,a2,a3,a4,a5,a6,a7,a8]]) :=
 (build_lit' (n:=9) (l:=[(0,.int .i64 a0),(1,.int .i64 a1),(2,.int .i64 a2),(3,.int .i64 a3),(4,.int .i64 a4),(5,.int .i64 a5),(6,.int .i64 a6),(7,.int .i64 a7),(8,.int .i64 a8)]) rfl rfl (by decide) (by decide) (by decide)).trans rfl
set_option maxHeartbeats 2000000 in
theorem qbytes_pure (k:Option Bool) (d:Drw) (hk:Rec.Ok k d.phs) (hp:d.phs.length≤1000000) (hv:d.all.length≤1000000) (hg:∀ p∈d.phs,p.gives.length≤1000000∧∀ e∈p.gives,e.1.length≤1000000) :
  pureCall E.P (L E) 14 [drV k d]=some (resB d):=by
 have fp:=qform_pure k d hk hp hv hg
 have hrf:∀ h,reify E.P 8 h (drV k d)=some (drV k d):=fun h=>by
  have hs:([.int .i64 d.lot,phR.o k d.phs]:List Value).all (settled 8)=true:=by
   simp only [List.all_cons,List.all_nil,Bool.and_true,Bool.and_eq_true]
   exact ⟨rfl,Rec.o_set⟩
  unfold drV
  rw [reify_agg,reifyC_set hs];rfl
 have hfit:formB d=true→_:=fun q=>Dw.form_fit q
 have hph:formB d=true→_:=fun q=>form_ph q
 have hel:formB d=true→_:=fun q=>enc_len q
 unfold resB
 rw [pureCall_fn F14 rfl]
 cases hF:formB d with
 | false =>
  rw [hF] at fp
  have la:∀ X,loadT ⟨some true,some 2⟩ (AObj.cells tD [.int .i64 d.lot,phR.o k d.phs] 0 :: X) (.pointer (some ⟨0,0,none⟩))=some (.agg ⟨[.int .i64 d.lot,phR.o k d.phs]⟩):=fun X=>obj_all (n:=2) (t:=tD) (c:=[.int .i64 d.lot,phR.o k d.phs]) rfl rfl
  unfold drV at *
  simp -implicitDefEqProofs [r14,p14,la,ret0 m22,hrf,fp,-reify_agg]
 | true =>
  have hfit:=hfit hF
  have hph:=hph hF
  have hel:=hel hF
  rw [hF] at fp
  clear hF hv hg
  rw [if_pos rfl]
  unfold Dw.enc at hel ⊢
  obtain ⟨lot,phs⟩:=d
  have hlot:=hfit.lot
  have hp8:=hfit.phs
  clear hfit
  simp only at *
  have np:=qnumE_pure (n:=(phs.length:Int)) ⟨by omega,by omega⟩
  have nl:=qnumE_pure hlot.2
  have ll:∀ h,lenT .sl h (phR.o k phs)=some (.int .i64 phs.length):=fun h=>Rec.o_len hk
  have ix:=fun (i:Nat) (hi:i<phs.length)=>Rec.o_index (R:=phR) (s:=2) (t:=tP) (kk:=.i64) rfl hk hi
  have bP:∀ d n,below (d+1) n (phR.o k phs)=true:=fun d n=>Rec.o_bel
  unfold drV at *
  simp only at *
  generalize phR.o k phs=VP at *
  have bD:∀ n,below 8 n (.agg ⟨[.int .i64 lot,VP]⟩)=true:=fun n=>by show ([_,_]:List Value).all (below 7 n)=true;simp only [List.all_cons,List.all_nil,bP,bel_int,Bool.and_self]
  obtain ⟨A0,hA⟩:∃ A,AObj.cells tD [.int .i64 lot,VP] 0=A:=⟨_,rfl⟩
  have bl:∀ n,belowO n A0=true:=fun n=>by rw [← hA];show ([_,_]:List Value).all (below 8 n)=true;simp only [List.all_cons,List.all_nil,bP,bel_int,Bool.and_self]
  have ld0:∀ X,loadT ⟨some false,some 1⟩ (A0 :: X) (.pointer (some ⟨0,0,none⟩))=some (.int .i64 lot):=fun X=>by rw [← hA];exact obj_load (j:=0) (t:=tD) (c:=[.int .i64 lot,VP]) rfl rfl
  have ld:∀ X,loadT ⟨some false,some 1⟩ (A0 :: X) (.pointer (some ⟨0,1,none⟩))=some VP:=fun X=>by rw [← hA];exact obj_load (j:=1) (t:=tD) (c:=[.int .i64 lot,VP]) rfl rfl
  have la:∀ X,loadT ⟨some true,some 2⟩ (A0 :: X) (.pointer (some ⟨0,0,none⟩))=some (.agg ⟨[.int .i64 lot,VP]⟩):=fun X=>by rw [← hA];exact obj_all (n:=2) (t:=tD) (c:=[.int .i64 lot,VP]) rfl rfl
  have hN1:=encN_len hlot.2
  have hN2:=encN_len (n:=(phs.length:Int)) ⟨by omega,by omega⟩
  simp only [List.length_append] at hel
  have a1:=sv_add (P:=E.P) (t:=9) (a:=encN lot) (b:=encN phs.length) (by omega)
  generalize hC0:encN lot++encN phs.length=c0 at *
  have hc0:c0.length≤42:=by rw [← hC0,List.length_append];omega
  have hinv0:c0.length+(phs.flatMap encP).length≤90000:=by rw [← hC0,List.length_append];omega
  simp -implicitDefEqProofs [r14,p14,la,ld0,ld,hA,ret0 m22,hrf,fp,ret0 m53,nl,np,ll,a1,-List.append_assoc,-reify_agg]
  rw [LL_for (γ:=List UInt8) phs c0 (fun i c=>[(4,.string ⟨⟨c⟩⟩),(5,.int .i64 (i:Int))]) (fun _ _=>[A0]) (fun _ rest c=>(.exit 0,[(4,.string ⟨⟨c++rest.flatMap encP⟩⟩),(5,undef)],[A0])) (fun i c=>c.length+((phs.drop i).flatMap encP).length≤90000) (by omega) (by rw [List.drop_zero];exact hinv0)]
  ·generalize c0++phs.flatMap encP=S at *
   simp -implicitDefEqProofs [k14_5]
  ·simp -implicitDefEqProofs [k14_5]
  ·rfl
  ·intro nx i c hi _
   simp -implicitDefEqProofs [r14_5,k14_5,hi,ld,ll,trim_le]
  ·intro nx i q rest c hi hv2 hd hw hinv ih
   rw [hd,List.flatMap_cons,List.length_append] at hinv
   have hd2:phs.drop (i+1)=rest:=by
    have:=congrArg List.tail hd
    simpa [List.tail_drop] using this
   have hii:((i:Nat):Int)<(phs.length:Int):=by omega
   have xi:=ix i hi
   rw [hv2,ph_val] at xi
   have hq:=hph q (by rw [← hv2];exact List.getElem_mem hi)
   have ih:=ih (c++encP q) (by rw [hd2,List.length_append];omega)
   obtain ⟨qv,qg⟩:=q
   have h1:=hq.nv
   have h2:=hq.vs
   have h3:=hq.ng
   have h4:=hq.gs
   clear hq hph
   simp only at xi h1 h2 h3 h4
   have n1:=qnumE_pure (n:=(qv.length:Int)) ⟨by omega,by omega⟩
   have n2:=qnumE_pure (n:=(qg.length:Int)) ⟨by omega,by omega⟩
   have lv:∀ h,lenT .sl h (lst false (volR.vals qv))=some (.int .i64 qv.length):=fun h=>Rec.tree_len
   have lg:∀ h,lenT .sl h (lst false (entR.vals qg))=some (.int .i64 qg.length):=fun h=>Rec.tree_len
   have iv:=fun (j:Nat) (hj:j<qv.length)=>Rec.index_tree (R:=volR) (h0:=9) (x:=false) (t:=tV) (k:=.i64) rfl hj
   have ig:=fun (j:Nat) (hj:j<qg.length)=>Rec.index_tree (R:=entR) (h0:=2) (x:=false) (t:=tE) (k:=.i64) rfl hj
   have ftp:fitsTT ⟨some true,some 2⟩ (.agg ⟨[lst false (volR.vals qv),lst false (entR.vals qg)]⟩)=true:=rfl
   have bQ:∀ d n,below (d+1) n (lst false (entR.vals qg))=true:=fun d n=>rfl
   have bW:∀ d n,below (d+1) n (lst false (volR.vals qv))=true:=fun d n=>rfl
   have eP:encP ⟨qv,qg⟩=encN qv.length++qv.flatMap encV++(encN qg.length++qg.flatMap encE):=rfl
   rw [List.flatMap_cons,← List.append_assoc]
   rw [eP] at hinv ih ⊢
   simp only [List.length_append] at hinv
   have ec:c++(encN qv.length++qv.flatMap encV++(encN qg.length++qg.flatMap encE))=c++encN qv.length++qv.flatMap encV++encN qg.length++qg.flatMap encE:=by simp
   rw [ec] at ih ⊢
   clear ec eP
   generalize rest.flatMap encP=RR at *
   generalize lst false (volR.vals qv)=VW at *
   generalize lst false (entR.vals qg)=VG at *
   have stp:∀ A,storeT (some 2) [A,.cells tP [.slice none 0 0,.slice none 0 0] 0] 0 (.agg ⟨[VW,VG]⟩) (.pointer (some ⟨1,0,none⟩))=some [A,.cells tP [VW,VG] 0]:=fun A=>snoc_put (g:=[A]) rfl rfl (by decide) (Nat.zero_le _)
   have lp0:∀ A X,loadT ⟨some false,some 1⟩ (A :: .cells tP [VW,VG] 0 :: X) (.pointer (some ⟨1,0,none⟩))=some VW:=fun A X=>obj_load (j:=0) (t:=tP) (c:=[VW,VG]) rfl rfl
   have lp1:∀ A X,loadT ⟨some false,some 1⟩ (A :: .cells tP [VW,VG] 0 :: X) (.pointer (some ⟨1,1,none⟩))=some VG:=fun A X=>obj_load (j:=1) (t:=tP) (c:=[VW,VG]) rfl rfl
   have s1:=sv_add (P:=E.P) (t:=9) (a:=c) (b:=encN qv.length) (by omega)
   simp -implicitDefEqProofs [r14_5,k14_5,hii,ld,ll,xi,ftp,stp,lp0,lv,ret0 m53,n1,s1,-List.append_assoc]
   rw [LL_for (γ:=List UInt8) qv (c++encN qv.length) (fun j c=>[(4,.string ⟨⟨c⟩⟩),(7,.int .i64 (j:Int))]) (fun _ _=>[A0,.cells tP [VW,VG] 0]) (fun _ rest c=>(.exit 2,[(4,.string ⟨⟨c++rest.flatMap encV⟩⟩),(7,undef)],[A0,.cells tP [VW,VG] 0])) (fun j c=>c.length+((qv.drop j).flatMap encV).length≤90000) (by omega) (by rw [List.drop_zero,List.length_append];omega)]
   ·have s3:=sv_add (P:=E.P) (t:=9) (a:=c++encN qv.length++qv.flatMap encV) (b:=encN qg.length) (by simp only [List.length_append];omega)
    simp -implicitDefEqProofs [k14_10,lp1,lg,ret0 m53,n2,s3,-List.append_assoc]
    rw [LL_for (γ:=List UInt8) qg (c++encN qv.length++qv.flatMap encV++encN qg.length) (fun j c=>[(4,.string ⟨⟨c⟩⟩),(11,.int .i64 (j:Int))]) (fun _ _=>[A0,.cells tP [VW,VG] 0]) (fun _ rest c=>(.exit 4,[(4,.string ⟨⟨c++rest.flatMap encE⟩⟩),(11,undef)],[A0,.cells tP [VW,VG] 0])) (fun j c=>c.length+((qg.drop j).flatMap encE).length≤90000) (by omega) (by rw [List.drop_zero];simp only [List.length_append];omega)]
    ·generalize c++encN qv.length++qv.flatMap encV++encN qg.length++qg.flatMap encE=c4 at *
     simp -implicitDefEqProofs [k14_5,-List.append_assoc] at ih
     simp -implicitDefEqProofs [k14_5,k14_20,hw,trim_cut,bl,bD,bP,-List.append_assoc,-List.all_eq_true]
     exact ih
    ·simp -implicitDefEqProofs [k14_20]
    ·rfl
    ·intro nx j c hj _
     simp -implicitDefEqProofs [r14_20,k14_20,hj,lp1,lg,trim_le]
    ·intro nx j e rst c hj hvv hdd hww hin ihe
     rw [hdd,List.flatMap_cons,List.length_append] at hin
     have hdd2:qg.drop (j+1)=rst:=by
      have:=congrArg List.tail hdd
      simpa [List.tail_drop] using this
     have hjj:((j:Nat):Int)<(qg.length:Int):=by omega
     have xg:=ig j hj
     rw [hvv] at xg
     have ihe:=ihe (c++encE e) (by rw [hdd2,List.length_append];omega)
     have he4:=h4 e (by rw [← hvv];exact List.getElem_mem hj)
     obtain ⟨nm,z⟩:=e
     change _=some (cptr (.agg ⟨[.string ⟨⟨nm⟩⟩,.int .i64 z]⟩)) at xg
     simp only at he4
     have tp:=qtextE_pure (t:=nm) (by omega)
     have nz:=qnumE_pure he4.2.2
     have eE:encE (nm,z)=encT nm++encN z:=rfl
     rw [eE,← List.append_assoc] at ihe
     rw [eE] at hin
     rw [List.flatMap_cons,← List.append_assoc,eE,← List.append_assoc]
     rw [List.length_append] at hin
     have ad:=sv_add (P:=E.P) (t:=9) (a:=c) (b:=encT nm) (by omega)
     have ad2:=sv_add (P:=E.P) (t:=9) (a:=c++encT nm) (b:=encN z) (by rw [List.length_append];omega)
     generalize c++encT nm++encN z=c5 at *
     generalize c++encT nm=c6 at *
     generalize encT nm=ET at *
     generalize encN z=EZ at *
     simp -implicitDefEqProofs [k14_20,-List.append_assoc] at ihe
     simp -implicitDefEqProofs [r14_20,k14_20,hjj,lp1,lg,xg,ret0 m55,tp,ret0 m53,nz,ad,ad2,hww,trim_le,-List.append_assoc]
     exact ihe
   ·simp -implicitDefEqProofs [k14_10]
   ·rfl
   ·intro nx j c hj _
    simp -implicitDefEqProofs [r14_10,k14_10,hj,lp0,lv,trim_le]
   ·intro nx j v rst c hj hvv hdd hww hin ihv
    rw [hdd,List.flatMap_cons,List.length_append] at hin
    have hdd2:qv.drop (j+1)=rst:=by
     have:=congrArg List.tail hdd
     simpa [List.tail_drop] using this
    have hjj:((j:Nat):Int)<(qv.length:Int):=by omega
    have xv:=iv j hj
    rw [hvv] at xv
    have ihv:=ihv (c++encV v) (by rw [hdd2,List.length_append];omega)
    have np9:=qnumsE_pure (x:=false) (l:=v.nums) (h2 v (by rw [← hvv];exact List.getElem_mem hj)) (by show 9≤10000;omega)
    have ad:=sv_add (P:=E.P) (t:=9) (a:=c) (b:=encV v) (by omega)
    change pureCall _ _ _ _=some (.string ⟨⟨encV v⟩⟩) at np9
    rw [List.flatMap_cons,← List.append_assoc]
    generalize c++encV v=c5 at *
    generalize encV v=EV at *
    obtain ⟨a0,a1',a2,a3,a4,a5,a6,a7,xt⟩:=v
    change _=some (cptr (.agg ⟨[.int .i64 a0,.int .i64 a1',.int .i64 a2,.int .i64 a3,.int .i64 a4,.int .i64 a5,.int .i64 a6,.int .i64 a7,.bool xt]⟩)) at xv
    simp -implicitDefEqProofs [k14_10,-List.append_assoc] at ihv
    have l9:=fun h=>live9 h a0 a1' a2 a3 a4 a5 a6 a7 0
    cases xt with
    | false =>
     change pureCall _ _ _ [lst false (intE.vals [a0,a1',a2,a3,a4,a5,a6,a7,0])]=_ at np9
     have r9:∀ A B C D,reify E.P 8 [A,B,C,D,intE.row 3 [a0,a1',a2,a3,a4,a5,a6,a7,0]] (Enc.sl 4 [a0,a1',a2,a3,a4,a5,a6,a7,0])=some (lst false (intE.vals [a0,a1',a2,a3,a4,a5,a6,a7,0])):=fun A B C D=>Enc.reify_sl (t:=3) rfl s3 aI
     have b9:belowO 5 (intE.row 3 [a0,a1',a2,a3,a4,a5,a6,a7,0])=true:=Enc.row_bel
     generalize intE.row 3 [a0,a1',a2,a3,a4,a5,a6,a7,0]=R9 at *
     generalize lst false (intE.vals [a0,a1',a2,a3,a4,a5,a6,a7,0])=V9 at *
     simp -implicitDefEqProofs [r14_10,k14_10,hjj,lp0,lv,xv,l9,r9,ret0 m54,np9,ad,hww,trim_cut,bl,bD,bP,bQ,bW,-List.append_assoc,-List.all_eq_true]
     exact ihv
    | true =>
     change pureCall _ _ _ [lst false (intE.vals [a0,a1',a2,a3,a4,a5,a6,a7,1])]=_ at np9
     have i9:indexAddrT (.sl 3 ⟨some false,some 1⟩) (Enc.sl 4 [a0,a1',a2,a3,a4,a5,a6,a7,0]) (.int .i64 8)=some (Enc.at_ 4 [a0,a1',a2,a3,a4,a5,a6,a7,0] 8):=Enc.sl_index (i:=8) (by simp)
     have t9:∀ A B C D,storeT (some 1) [A,B,C,D,intE.row 3 [a0,a1',a2,a3,a4,a5,a6,a7,0]] 0 (.int .i64 1) (Enc.at_ 4 [a0,a1',a2,a3,a4,a5,a6,a7,0] 8)=some [A,B,C,D,intE.row 3 [a0,a1',a2,a3,a4,a5,a6,a7,1]]:=fun A B C D =>
      Enc.store_at (O:=intE) (h:=[A,B,C,D,intE.row 3 [a0,a1',a2,a3,a4,a5,a6,a7,0]]) (b:=4) (i:=8) (a:=1) (lo:=0) (t:=3) rfl (Nat.zero_le _) (by simp)
     have r9:∀ A B C D,reify E.P 8 [A,B,C,D,intE.row 3 [a0,a1',a2,a3,a4,a5,a6,a7,1]] (Enc.sl 4 [a0,a1',a2,a3,a4,a5,a6,a7,0])=some (lst false (intE.vals [a0,a1',a2,a3,a4,a5,a6,a7,1])):=fun A B C D=>Enc.reify_sl (O:=intE) (l:=[a0,a1',a2,a3,a4,a5,a6,a7,1]) (b:=4) (t:=3) rfl s3 aI
     generalize intE.row 3 [a0,a1',a2,a3,a4,a5,a6,a7,1]=R1 at *
     generalize intE.row 3 [a0,a1',a2,a3,a4,a5,a6,a7,0]=R9 at *
     generalize lst false (intE.vals [a0,a1',a2,a3,a4,a5,a6,a7,1])=V9 at *
     simp -implicitDefEqProofs [r14_10,k14_10,hjj,lp0,lv,xv,l9,i9,t9,r9,ret0 m54,np9,ad,hww,trim_cut,bl,bD,bP,bQ,bW,-List.append_assoc,-List.all_eq_true]
     exact ihv
end Go.Proofs.YtplebjehcgcdeaaGreatDoor.Bm
