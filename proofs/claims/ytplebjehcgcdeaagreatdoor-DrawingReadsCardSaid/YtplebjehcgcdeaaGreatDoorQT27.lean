/-
 The reference's reader of a volume, walked. Conditions: a heap that names only itself.
-/
import Derived.Test.YtplebjehcgcdeaaGreatDoorQT20
import Derived.Test.YtplebjehcgcdeaaGreatDoorQT21
namespace Go.Proofs.YtplebjehcgcdeaaGreatDoor.Bm
open Go Go.RowKit Go.Lib
open Dw (RS numP numS encI encN encT minI stepB backI bodyB negB backL scanE aheadP sepB)
abbrev tRq:TypeId:=135
theorem qfail_spec {h:Heap} {b lo:Nat} {s:RS} (hob:h[b]?=some (rdC tRq s)) (hlo:lo≤b):retCall E (L E) lo false 149 [rdP b] h=some (.int .i64 0,h.set b (rdC tRq ([],true))):=by
 have s1:=rd_set hob hlo []
 have s2:=rd_mark (rd_get (h:=h) (t:=tRq) ([],s.2) (ob_lt hob)) hlo true
 rw [List.set_set] at s2
 have key:L E 149 [rdP b] h lo=some (.int .i64 0,h.set b (rdC tRq ([],true))):=by
  rw [L_fn F149 rfl]
  simp -implicitDefEqProofs [r149,padS,rop_nilCheck,s1,s2]
 rw [ret3t m149,key,Option.map_some,trim_le (by rw [List.length_set];exact Nat.le_refl _)]
theorem dig_pure:∀ (u:Nat),u≤9223372036854775808→pureCall E.P (L E) 121 [.int .i64 (-(u:Int))]=some (.string ⟨⟨decDigits u⟩⟩)
 | u,hu=>by
  rw [pureCall_fn F121 rfl]
  have hr:(-(u:Int)).tmod 10 = -((u % 10:Nat):Int):=by rw [Int.neg_tmod];rfl
  have hq:(-(u:Int)).tdiv 10 = -((u / 10:Nat):Int):=by rw [Int.neg_tdiv];rfl
  have br:aBin E.P .rem 3 (.int .i64 (-(u:Int))) (.int .i64 10)=some (.int .i64 (-((u % 10:Nat):Int))):=by
   show (if (10:Int)=0 then none else some (Value.int .i64 ((-(u:Int)).tmod 10)))=_
   rw [if_neg (by decide),hr]
  have bq:aBin E.P .quo 3 (.int .i64 (-(u:Int))) (.int .i64 10)=some (.int .i64 (-((u / 10:Nat):Int))):=by
   have hle:=Nat.div_le_self u 10
   show (if (10:Int)=0 then none else some (Value.int .i64 (IntKind.i64.wrap ((-(u:Int)).tdiv 10))))=_
   rw [if_neg (by decide),hq,wrap64 (by omega) (by omega)]
  obtain ⟨c,hc⟩:∃ c,UInt8.ofNat (48+u % 10)=c:=⟨_,rfl⟩
  have hlt:u % 10<10:=Nat.mod_lt _ (by decide)
  have hcn:c.toNat=48+u % 10:=by rw [← hc];exact Dw.digit_nat hlt
  have bs:aBin E.P .sub 3 (.int .i64 48) (.int .i64 (-((u % 10:Nat):Int)))=some (.int .i64 (c.toNat:Int)):=by
   show some (Value.int .i64 (IntKind.i64.wrap (48 - -((u % 10:Nat):Int))))=_
   rw [wrap64 (by omega) (by omega)]
   congr 2;omega
  have wc:IntKind.u8.wrap (c.toNat:Int)=(c.toNat:Int):=by
   have:=c.toNat_lt
   unfold IntKind.wrap
   simp [IntKind.bits,IntKind.signed]
   omega
  generalize (-((u % 10:Nat):Int))=md at *
  have lb:∀ h,buildSliceT (some ⟨5,1,1,.int .u8 0,⟨some false,some 1⟩⟩) false h 1 #[(0,.int .u8 (c.toNat:Int))]=some (lst true [.int .u8 (c.toNat:Int)],h):=fun h =>
   (build_lit' (n:=1) (l:=[(0,.int .u8 (c.toNat:Int))]) rfl rfl (by decide) (by decide) (by decide)).trans rfl
  have bh:∀ h,bytesH h (lst true [.int .u8 (c.toNat:Int)])=some (.string ⟨⟨[c]⟩⟩):=fun h=>by
   show some (Value.string (ByteArray.empty.push (UInt8.ofNat (c.toNat:Int).toNat)))=_
   rw [Int.toNat_natCast,UInt8.ofNat_toNat];rfl
  by_cases h:u<10
  ·have h':(-10:Int) < -(u:Int):=by omega
   have e0:decDigits u=[c]:=by rw [decDigits,dif_pos h,← hc,Nat.mod_eq_of_lt h]
   rw [e0]
   simp -implicitDefEqProofs [r121,padS,h',br,bs,wc,lb,bh]
   done
  ·have h':¬ (-10:Int) < -(u:Int):=by omega
   have ih:=dig_pure (u / 10) (by omega)
   have e0:decDigits u=decDigits (u / 10)++[c]:=by rw [decDigits,dif_neg h,← hc]
   have hl:=Dw.dec_len (u:=u / 10) (k:=18) (by omega)
   have ad:∀ t,aBin E.P .add t (.string ⟨⟨decDigits (u / 10)⟩⟩) (.string ⟨⟨[c]⟩⟩)=some (.string ⟨⟨decDigits (u / 10)++[c]⟩⟩):=fun t=>sv_add (by show _+1≤_;omega)
   rw [e0]
   generalize decDigits (u / 10)=D at *
   generalize (-((u / 10:Nat):Int))=qq at *
   simp -implicitDefEqProofs [r121,padS,h',br,bq,bs,wc,lb,bh,ad,ret0 m121,ih]
   done
theorem dig_pos {n:Int} (h0:0≤n) (h1:n≤9223372036854775808):pureCall E.P (L E) 121 [.int .i64 (-n)]=some (.string ⟨⟨decDigits n.toNat⟩⟩):=by
 have:=dig_pure n.toNat (by omega)
 rwa [show -((n.toNat:Nat):Int) = -n by omega] at this
theorem qint_pure {n:Int} (hn:Dw.inR n):pureCall E.P (L E) 120 [.int .i64 n]=some (.string ⟨⟨encI n⟩⟩):=by
 have hlen:=Dw.ito_len hn
 obtain ⟨h1,h2⟩:=id hn
 have hd:=Dw.ito_dec hn
 unfold encI
 rw [pureCall_fn F120 rfl]
 by_cases h:n<0
 ·rw [if_pos h] at hd
  have dp:=dig_pos (n:=-n) (by omega) (by omega)
  rw [Int.neg_neg,show (-n).toNat=n.natAbs by omega] at dp
  have a1:=sv_add (P:=E.P) (t:=9) (a:=[45]) (b:=decDigits n.natAbs) (by rw [hd] at hlen;simp at hlen ⊢; omega)
  have a2:=sv_add (P:=E.P) (t:=9) (a:=Dw.itoL n) (b:=[59]) (by simp;omega)
  rw [show [45]++decDigits n.natAbs=Dw.itoL n from hd.symm] at a1
  generalize decDigits n.natAbs=D at *
  generalize Dw.itoL n=I at *
  simp -implicitDefEqProofs [r120,p120,h,ret0 m121,dp,a1,a2]
 ·rw [if_neg h] at hd
  have dp:=dig_pos (n:=n) (by omega) (by omega)
  have w1:IntKind.i64.wrap (-n) = -n:=wrap64 (by omega) (by omega)
  have a2:=sv_add (P:=E.P) (t:=9) (a:=Dw.itoL n) (b:=[59]) (by simp;omega)
  rw [← hd] at dp
  generalize Dw.itoL n=I at *
  simp -implicitDefEqProofs [r120,p120,h,w1,ret0 m121,dp,a2]
theorem qnumE_pure {n:Int} (hn:Dw.inR n):pureCall E.P (L E) 53 [.int .i64 n]=some (.string ⟨⟨encN n⟩⟩):=by
 have ip:=qint_pure hn
 unfold encN
 rw [pureCall_fn F53 rfl]
 by_cases h:n<0
 ·simp -implicitDefEqProofs [r53,p53,h]
 ·simp -implicitDefEqProofs [r53,p53,h,ret0 m120,ip]
theorem qtextE_pure {t:List UInt8} (ht:t.length≤1000000):pureCall E.P (L E) 55 [.string ⟨⟨t⟩⟩]=some (.string ⟨⟨encT t⟩⟩):=by
 have hn:Dw.inR (t.length:Int):=⟨by omega,by omega⟩
 have hlen:=Dw.ito_len hn
 have hd:=Dw.ito_dec hn
 rw [if_neg (by omega)] at hd
 have dp:=dig_pos (n:=(t.length:Int)) (by omega) (by omega)
 have w1:IntKind.i64.wrap (-(t.length:Int)) = -(t.length:Int):=wrap64 (by omega) (by omega)
 rw [← hd] at dp
 have a1:=sv_add (P:=E.P) (t:=9) (a:=Dw.itoL t.length) (b:=[58]) (by simp;omega)
 have a2:=sv_add (P:=E.P) (t:=9) (a:=Dw.itoL t.length++[58]) (b:=t) (by simp;omega)
 have a3:=sv_add (P:=E.P) (t:=9) (a:=Dw.itoL t.length++[58]++t) (b:=[44]) (by simp;omega)
 have ls:∀ h,lenT .str h (.string ⟨⟨t⟩⟩)=some (.int .i64 t.length):=fun h=>rfl
 have e:encT t=Dw.itoL t.length++[58]++t++[44]:=by unfold encT;simp
 rw [pureCall_fn F55 rfl,e]
 generalize Dw.itoL t.length++[58]++t++[44]=I3 at *
 generalize Dw.itoL t.length++[58]++t=I2 at *
 generalize Dw.itoL t.length++[58]=I1 at *
 generalize Dw.itoL t.length=I at *
 simp -implicitDefEqProofs [r55,p55,ls,w1,ret0 m121,dp,a1,a2,a3]
theorem qI_len {n:Int} (h:Dw.inR n):(encI n).length≤21:=by
 have:=Dw.ito_len h
 unfold encI
 rw [List.length_append]
 show _+1≤_
 omega
theorem qnumsE_pure {x:Bool} {l:List Int} (h:∀ n∈l,Dw.inR n) (hl:l.length≤10000):pureCall E.P (L E) 54 [lst x (intE.vals l)]=some (.string ⟨⟨Dw.encL l⟩⟩):=by
 have ll:∀ h,lenT .sl h (lst x (intE.vals l))=some (.int .i64 l.length):=fun h=>Enc.o_len (O:=intE) (k:=some x) (fun q=>by cases q)
 have ix:=fun (i:Nat) (hi:i<l.length)=>Enc.index_tree (O:=intE) (x:=x) (t:=3) (k:=.i64) hi
 have hn:Dw.inR (l.length:Int):=⟨by omega,by omega⟩
 have hlen:=Dw.ito_len hn
 have hd:=Dw.ito_dec hn
 rw [if_neg (by omega)] at hd
 have dp:=dig_pos (n:=(l.length:Int)) (by omega) (by omega)
 have w1:IntKind.i64.wrap (-(l.length:Int)) = -(l.length:Int):=wrap64 (by omega) (by omega)
 rw [← hd] at dp
 have a1:=sv_add (P:=E.P) (t:=9) (a:=Dw.itoL l.length) (b:=[91]) (by simp;omega)
 have e:Dw.encL l=(Dw.itoL l.length++[91])++l.flatMap encI++[93]:=by unfold Dw.encL;simp
 have h1:(Dw.itoL l.length++[91]).length≤21:=by rw [List.length_append];show _+1≤_;omega
 rw [pureCall_fn F54 rfl,e]
 generalize Dw.itoL l.length++[91]=I1 at *
 generalize Dw.itoL l.length=I at *
 generalize lst x (intE.vals l)=VL at *
 generalize hT:I1++l.flatMap encI++[93]=T at *
 simp -implicitDefEqProofs [r54,p54,ll,w1,ret0 m121,dp,a1]
 rw [LL_for (γ:=List UInt8) l I1 (fun i c=>[(3,.string ⟨⟨c⟩⟩),(4,.int .i64 (i:Int))]) (fun _ _=>[]) (fun i rest c=>(.exit 0,[(3,.string ⟨⟨c++rest.flatMap encI⟩⟩),(4,undef)],[])) (fun i c=>c.length≤21+21 * i) (by omega) (by omega)]
 ·have hfl:∀ m:List Int,(∀ n∈m,Dw.inR n)→(m.flatMap encI).length≤21 * m.length:=fun m=>by
   induction m with
   | nil=>intro;simp
   | cons y r ih =>
    intro hm
    have:=ih fun z hz=>hm z (List.mem_cons_of_mem _ hz)
    have:=qI_len (hm y (by simp))
    rw [List.flatMap_cons,List.length_append,List.length_cons]
    omega
  have:=hfl l h
  have a3:=sv_add (P:=E.P) (t:=9) (a:=I1++l.flatMap encI) (b:=[93]) (by rw [List.length_append];show _+1≤_;omega)
  rw [hT] at a3
  generalize I1++l.flatMap encI=I2 at *
  simp -implicitDefEqProofs [k54_3,a3]
 ·simp -implicitDefEqProofs [k54_3]
 ·rfl
 ·intro nx i c hi _
  simp -implicitDefEqProofs [r54_3,k54_3,hi,ll,trim_le]
 ·intro nx i y rest c hi hv hd2 hw hc ih
  have hy:=h y (by rw [← hv];exact List.getElem_mem hi)
  have hyl:=qI_len hy
  have ih:=ih (c++encI y) (by rw [List.length_append];omega)
  have xi:=ix i hi
  rw [hv] at xi
  change _=some (cptr (.int .i64 y)) at xi
  have hii:((i:Nat):Int)<(l.length:Int):=by omega
  have ip:=qint_pure hy
  have a2:=sv_add (P:=E.P) (t:=9) (a:=c) (b:=encI y) (by omega)
  have e2:c++(y :: rest).flatMap encI=c++encI y++rest.flatMap encI:=by simp
  rw [e2]
  generalize c++encI y++rest.flatMap encI=I4 at *
  generalize c++encI y=I3 at *
  generalize encI y=IY at *
  simp -implicitDefEqProofs [k54_3] at ih
  simp -implicitDefEqProofs [r54_3,k54_3,hii,ll,xi,ret0 m120,ip,a2,hw,trim_le]
  exact ih
theorem encI_eq (m:Int) (l:List UInt8):encI m=l++[59]↔Dw.itoL m=l:=by
 unfold encI
 constructor
 ·intro h;exact List.append_cancel_right h
 ·intro h;rw [h]
def backN:List UInt8→Int→Int
 | [],n=>n
 | c :: r,n=>if c.toNat<48∨57<c.toNat then n else backN r (stepB n c)
theorem qback_pure (l:List UInt8) (hl:l.length≤21):pureCall E.P (L E) 221 [.string ⟨⟨l⟩⟩]=some (.tuple ⟨[.int .i64 (backL l).1,.bool (backL l).2]⟩):=by
 rw [pureCall_fn F221 rfl]
 unfold backL
 cases l with
 | nil =>
  have eB:bodyB []=[]:=rfl
  have eN:negB []=false:=rfl
  rw [eB,eN]
  have h0:¬ 0<([]:List UInt8).length:=by decide
  have ixs:∀ i (hi:i<([]:List UInt8).length),indexT .str (.string ⟨⟨[]⟩⟩) (.int .i64 ((i:Nat):Int))=some (.int .u8 (([]:List UInt8)[i]).toNat):=fun i hi=>absurd hi (Nat.not_lt_zero i)
  generalize ([]:List UInt8)=l at *
  have ad:=sv_add (P:=E.P) (t:=9) (a:=l) (b:=[59]) (by show _+1≤_;omega)
  simp -implicitDefEqProofs [r221,p221,str_size,h0]
  rw [LL_for (γ:=Int) l 0 (fun i n=>[(5,.int .i64 n),(6,.int .i64 ((i:Nat):Int))]) (fun _ _=>[]) (fun i rest n=>match backI rest n with | none=>(.ret,[(2,.int .i64 0),(3,.bool false),(5,.int .i64 (backN rest n)),(6,undef)],[]) | some m=>(.exit 0,[(5,.int .i64 m),(6,undef)],[])) (fun _ n=>Dw.inR n) (by omega) ⟨by decide,by decide⟩]
  ·cases hm:backI l 0 with
   | none=>simp -implicitDefEqProofs [k221_6]
   | some m =>
    have hmr:=Dw.backI_inR _ _ _ ⟨by decide,by decide⟩ hm
    have hwr:=Dw.w64_inR (0-m)
    have hz:(0:Int)-m = -m:=by omega
    rw [hz] at hwr
    have ip:=qint_pure hwr
    have hei:=encI_eq (IntKind.i64.wrap (-m)) l
    simp only
    generalize hm2:IntKind.i64.wrap (-m)=m2 at *
    by_cases he:Dw.itoL m2=l
    ·have he2:=hei.2 he
     rw [decide_eq_true he]
     simp -implicitDefEqProofs [k221_6,ret0 m120,ip,ad,he2,hm2]
    ·have he2:¬ encI m2=l++[59]:=fun q=>he (hei.1 q)
     rw [decide_eq_false he]
     simp -implicitDefEqProofs [k221_6,ret0 m120,ip,ad,he2,hm2]
  ·simp -implicitDefEqProofs [k221_6]
  ·rfl
  ·intro nx i c hi _
   have hc:¬ (((i:Nat):Int)<(l.length:Int)):=by omega
   simp -implicitDefEqProofs [r221_6,k221_6,hc,str_size,trim_le,backI,-Int.natCast_add]
  ·intro nx i x rest n hi hv hd hw hn ih
   have hc:(((i:Nat):Int)<(l.length:Int)):=by omega
   have xi:=ixs i hi
   rw [hv] at xi
   have w1:IntKind.i64.wrap (((i:Nat):Int)+1)=((i+1:Nat):Int):=(wrap64 (by omega) (by omega)).trans (by omega)
   have h20:¬ ((20:Int)<((i:Nat):Int)):=by omega
   have eb2:backN (x :: rest) n=if x.toNat<48∨57<x.toNat then n else backN rest (stepB n x):=rfl
   have eb:backI (x :: rest) n=if x.toNat<48∨57<x.toNat then none else backI rest (stepB n x):=rfl
   by_cases h1:x.toNat<48
   ·have h1':((x.toNat:Nat):Int)<48:=by omega
    rw [eb,eb2,if_pos (.inl h1),if_pos (.inl h1)]
    simp -implicitDefEqProofs [r221_6,k221_6,hc,str_size,xi,h1',trim_le,-Int.natCast_add]
   have h1':¬ ((x.toNat:Nat):Int)<48:=by omega
   by_cases h2:57<x.toNat
   ·have h2':(57:Int)<((x.toNat:Nat):Int):=by omega
    rw [eb,eb2,if_pos (.inr h2),if_pos (.inr h2)]
    simp -implicitDefEqProofs [r221_6,k221_6,hc,str_size,xi,h1',h2',trim_le,-Int.natCast_add]
   have h2':¬ (57:Int)<((x.toNat:Nat):Int):=by omega
   rw [eb,eb2,if_neg (fun q=>q.elim h1 h2),if_neg (fun q=>q.elim h1 h2)]
   have ih:=ih (stepB n x) (Dw.w64_inR _)
   have wu:IntKind.u8.wrap ((x.toNat:Int)-48)=(x.toNat:Int)-48:=by
    have:=x.toNat_lt
    unfold IntKind.wrap
    simp [IntKind.bits,IntKind.signed]
    omega
   have wv:IntKind.i64.wrap ((x.toNat:Int)-48)=(x.toNat:Int)-48:=wrap64 (by omega) (by omega)
   have ws:IntKind.i64.wrap (IntKind.i64.wrap (10 * n)-((x.toNat:Int)-48))=stepB n x:=rfl
   generalize stepB n x=n2 at *
   simp -implicitDefEqProofs [k221_6,-Int.natCast_add] at ih
   simp -implicitDefEqProofs [r221_6,k221_6,hc,str_size,xi,h1',h2',h20,wu,wv,ws,w1,trim_le,-Int.natCast_add]
   exact ih
 | cons c r =>
  have ix0:indexT .str (.string ⟨⟨c :: r⟩⟩) (.int .i64 0)=some (.int .u8 c.toNat):=sv_head
  have hpos:0<(c :: r).length:=by rw [List.length_cons];omega
  have hrl:r.length+1=(c :: r).length:=rfl
  by_cases hc:c=45
  ·subst hc
   have ixs:∀ i (hi:i<r.length),indexT .str (.string ⟨⟨45 :: r⟩⟩) (.int .i64 ((i+1:Nat):Int))=some (.int .u8 (r[i]).toNat):=fun i hi=>sv_idx (i:=i+1) (by simp;omega)
   have eB:bodyB (45 :: r)=r:=rfl
   have eN:negB (45 :: r)=true:=rfl
   rw [eB,eN]
   rw [show (((45:UInt8).toNat:Nat):Int)=45 from rfl] at ix0
   generalize (45:UInt8) :: r=l at *
   have ad:=sv_add (P:=E.P) (t:=9) (a:=l) (b:=[59]) (by show _+1≤_;omega)
   simp -implicitDefEqProofs [r221,p221,str_size,hpos,ix0]
   rw [LL_for (γ:=Int) r 0 (fun i n=>[(5,.int .i64 n),(6,.int .i64 ((i+1:Nat):Int))]) (fun _ _=>[]) (fun i rest n=>match backI rest n with | none=>(.ret,[(2,.int .i64 0),(3,.bool false),(5,.int .i64 (backN rest n)),(6,undef)],[]) | some m=>(.exit 0,[(5,.int .i64 m),(6,undef)],[])) (fun _ n=>Dw.inR n) (by omega) ⟨by decide,by decide⟩]
   ·cases hm:backI r 0 with
    | none=>simp -implicitDefEqProofs [k221_6]
    | some m =>
     have hmr:=Dw.backI_inR _ _ _ ⟨by decide,by decide⟩ hm
     have ip:=qint_pure hmr
     have hei:=encI_eq m l
     by_cases he:Dw.itoL m=l
     ·have he2:=hei.2 he
      simp only
      rw [decide_eq_true he]
      simp -implicitDefEqProofs [k221_6,ret0 m120,ip,ad,he2]
     ·have he2:¬ encI m=l++[59]:=fun q=>he (hei.1 q)
      simp only
      rw [decide_eq_false he]
      simp -implicitDefEqProofs [k221_6,ret0 m120,ip,ad,he2]
   ·simp -implicitDefEqProofs [k221_6]
   ·rfl
   ·intro nx i c hi _
    have hc:¬ (((i+1:Nat):Int)<(l.length:Int)):=by omega
    simp -implicitDefEqProofs [r221_6,k221_6,hc,str_size,trim_le,backI,-Int.natCast_add]
   ·intro nx i x rest n hi hv hd hw hn ih
    have hc:(((i+1:Nat):Int)<(l.length:Int)):=by omega
    have xi:=ixs i hi
    rw [hv] at xi
    have w1:IntKind.i64.wrap (((i+1:Nat):Int)+1)=((i+1+1:Nat):Int):=(wrap64 (by omega) (by omega)).trans (by omega)
    have h20:¬ ((20:Int)<((i+1:Nat):Int)):=by omega
    have eb2:backN (x :: rest) n=if x.toNat<48∨57<x.toNat then n else backN rest (stepB n x):=rfl
    have eb:backI (x :: rest) n=if x.toNat<48∨57<x.toNat then none else backI rest (stepB n x):=rfl
    by_cases h1:x.toNat<48
    ·have h1':((x.toNat:Nat):Int)<48:=by omega
     rw [eb,eb2,if_pos (.inl h1),if_pos (.inl h1)]
     simp -implicitDefEqProofs [r221_6,k221_6,hc,str_size,xi,h1',trim_le,-Int.natCast_add]
    have h1':¬ ((x.toNat:Nat):Int)<48:=by omega
    by_cases h2:57<x.toNat
    ·have h2':(57:Int)<((x.toNat:Nat):Int):=by omega
     rw [eb,eb2,if_pos (.inr h2),if_pos (.inr h2)]
     simp -implicitDefEqProofs [r221_6,k221_6,hc,str_size,xi,h1',h2',trim_le,-Int.natCast_add]
    have h2':¬ (57:Int)<((x.toNat:Nat):Int):=by omega
    rw [eb,eb2,if_neg (fun q=>q.elim h1 h2),if_neg (fun q=>q.elim h1 h2)]
    have ih:=ih (stepB n x) (Dw.w64_inR _)
    have wu:IntKind.u8.wrap ((x.toNat:Int)-48)=(x.toNat:Int)-48:=by
     have:=x.toNat_lt
     unfold IntKind.wrap
     simp [IntKind.bits,IntKind.signed]
     omega
    have wv:IntKind.i64.wrap ((x.toNat:Int)-48)=(x.toNat:Int)-48:=wrap64 (by omega) (by omega)
    have ws:IntKind.i64.wrap (IntKind.i64.wrap (10 * n)-((x.toNat:Int)-48))=stepB n x:=rfl
    generalize stepB n x=n2 at *
    simp -implicitDefEqProofs [k221_6,-Int.natCast_add] at ih
    simp -implicitDefEqProofs [r221_6,k221_6,hc,str_size,xi,h1',h2',h20,wu,wv,ws,w1,trim_le,-Int.natCast_add]
    exact ih
  ·have hc':¬ ((c.toNat:Nat):Int)=45:=fun q=>hc (by
    have:c.toNat=(45:UInt8).toNat:=by rw [show (45:UInt8).toNat=45 from rfl];omega
    exact UInt8.toNat_inj.1 this)
   have eB:bodyB (c :: r)=c :: r:=by unfold bodyB;simp [hc]
   have eN:negB (c :: r)=false:=by unfold negB;simp [hc]
   have ixs:∀ i (hi:i<(c :: r).length),indexT .str (.string ⟨⟨c :: r⟩⟩) (.int .i64 ((i:Nat):Int))=some (.int .u8 ((c :: r)[i]).toNat):=fun i hi=>sv_idx (i:=i) hi
   rw [eB,eN]
   generalize c :: r=l at *
   have ad:=sv_add (P:=E.P) (t:=9) (a:=l) (b:=[59]) (by show _+1≤_;omega)
   simp -implicitDefEqProofs [r221,p221,str_size,hpos,ix0,hc']
   rw [LL_for (γ:=Int) l 0 (fun i n=>[(5,.int .i64 n),(6,.int .i64 ((i:Nat):Int))]) (fun _ _=>[]) (fun i rest n=>match backI rest n with | none=>(.ret,[(2,.int .i64 0),(3,.bool false),(5,.int .i64 (backN rest n)),(6,undef)],[]) | some m=>(.exit 0,[(5,.int .i64 m),(6,undef)],[])) (fun _ n=>Dw.inR n) (by omega) ⟨by decide,by decide⟩]
   ·cases hm:backI l 0 with
    | none=>simp -implicitDefEqProofs [k221_6]
    | some m =>
     have hmr:=Dw.backI_inR _ _ _ ⟨by decide,by decide⟩ hm
     have hwr:=Dw.w64_inR (0-m)
     have hz:(0:Int)-m = -m:=by omega
     rw [hz] at hwr
     have ip:=qint_pure hwr
     have hei:=encI_eq (IntKind.i64.wrap (-m)) l
     simp only
     generalize hm2:IntKind.i64.wrap (-m)=m2 at *
     by_cases he:Dw.itoL m2=l
     ·have he2:=hei.2 he
      rw [decide_eq_true he]
      simp -implicitDefEqProofs [k221_6,ret0 m120,ip,ad,he2,hm2]
     ·have he2:¬ encI m2=l++[59]:=fun q=>he (hei.1 q)
      rw [decide_eq_false he]
      simp -implicitDefEqProofs [k221_6,ret0 m120,ip,ad,he2,hm2]
   ·simp -implicitDefEqProofs [k221_6]
   ·rfl
   ·intro nx i c hi _
    have hc:¬ (((i:Nat):Int)<(l.length:Int)):=by omega
    simp -implicitDefEqProofs [r221_6,k221_6,hc,str_size,trim_le,backI,-Int.natCast_add]
   ·intro nx i x rest n hi hv hd hw hn ih
    have hc:(((i:Nat):Int)<(l.length:Int)):=by omega
    have xi:=ixs i hi
    rw [hv] at xi
    have w1:IntKind.i64.wrap (((i:Nat):Int)+1)=((i+1:Nat):Int):=(wrap64 (by omega) (by omega)).trans (by omega)
    have h20:¬ ((20:Int)<((i:Nat):Int)):=by omega
    have eb2:backN (x :: rest) n=if x.toNat<48∨57<x.toNat then n else backN rest (stepB n x):=rfl
    have eb:backI (x :: rest) n=if x.toNat<48∨57<x.toNat then none else backI rest (stepB n x):=rfl
    by_cases h1:x.toNat<48
    ·have h1':((x.toNat:Nat):Int)<48:=by omega
     rw [eb,eb2,if_pos (.inl h1),if_pos (.inl h1)]
     simp -implicitDefEqProofs [r221_6,k221_6,hc,str_size,xi,h1',trim_le,-Int.natCast_add]
    have h1':¬ ((x.toNat:Nat):Int)<48:=by omega
    by_cases h2:57<x.toNat
    ·have h2':(57:Int)<((x.toNat:Nat):Int):=by omega
     rw [eb,eb2,if_pos (.inr h2),if_pos (.inr h2)]
     simp -implicitDefEqProofs [r221_6,k221_6,hc,str_size,xi,h1',h2',trim_le,-Int.natCast_add]
    have h2':¬ (57:Int)<((x.toNat:Nat):Int):=by omega
    rw [eb,eb2,if_neg (fun q=>q.elim h1 h2),if_neg (fun q=>q.elim h1 h2)]
    have ih:=ih (stepB n x) (Dw.w64_inR _)
    have wu:IntKind.u8.wrap ((x.toNat:Int)-48)=(x.toNat:Int)-48:=by
     have:=x.toNat_lt
     unfold IntKind.wrap
     simp [IntKind.bits,IntKind.signed]
     omega
    have wv:IntKind.i64.wrap ((x.toNat:Int)-48)=(x.toNat:Int)-48:=wrap64 (by omega) (by omega)
    have ws:IntKind.i64.wrap (IntKind.i64.wrap (10 * n)-((x.toNat:Int)-48))=stepB n x:=rfl
    generalize stepB n x=n2 at *
    simp -implicitDefEqProofs [k221_6,-Int.natCast_add] at ih
    simp -implicitDefEqProofs [r221_6,k221_6,hc,str_size,xi,h1',h2',h20,wu,wv,ws,w1,trim_le,-Int.natCast_add]
    exact ih
theorem scan_le (e:UInt8):∀ (k:Nat) (l:List UInt8),scanE e k l≤k
 | 0,_=>Nat.le_refl _
 | k+1,[]=>Nat.zero_le _
 | k+1,x :: r=>by
  have:=scan_le e k r
  unfold scanE
  split <;> omega
theorem qahead_spec {h:Heap} {b lo:Nat} {s:RS} {e:UInt8} (he:sepB e) (hob:h[b]?=some (rdC tRq s)) (hlo:lo≤b) (hl:s.1.length≤1000000) :
  retCall E (L E) lo false 189 [rdP b,.int .u8 e.toNat] h=some (.int .i64 (numS e minI s).1,h.set b (rdC tRq (numS e minI s).2)):=by
 obtain ⟨l,bad⟩:=s
 simp only at hl
 have l1:=rd_rest hob (sz:=some 1)
 have fl:=qfail_spec hob hlo
 have key:L E 189 [rdP b,.int .u8 e.toNat] h lo=some (.int .i64 (numS e minI (l,bad)).1,h.set b (rdC tRq (numS e minI (l,bad)).2)):=by
  unfold numS
  simp only
  rw [← Dw.ahead_eq he,L_fn F189 rfl]
  unfold aheadP
  simp only
  simp -implicitDefEqProofs [r189,padS]
  rw [LL_rec (α:=Nat) 0 (fun i=>[(5,.int .i64 (i:Int))]) (fun _=>h) (fun i=>(.exit 0,[(5,.int .i64 ((i+scanE e (21-i) (l.drop i):Nat):Int))],h)) (fun i=>i≤21∧i≤l.length) (fun i=>21-i) ⟨by omega,by omega⟩]
  ·rw [Nat.sub_zero,List.drop_zero,Nat.zero_add]
   have hj21:=scan_le e 21 l
   generalize scanE e 21 l=j at *
   by_cases hj:j<l.length
   ·have hj1:¬ l.length≤j:=by omega
    have ix:=sv_idx (k:=.i64) hj
    rw [List.getElem?_eq_getElem hj]
    have hee:((l[j].toNat:Int)=(e.toNat:Int))↔l[j]=e:=by rw [Int.natCast_inj];exact UInt8.toNat_inj
    by_cases hx:l[j]=e
    ·have hx':=hee.2 hx
     have tk:∀ h,sliceT .str h (.string ⟨⟨l⟩⟩) none (some (.int .i64 (j:Int))) none=some (.string ⟨⟨l.take j⟩⟩):=fun h=>sv_take (by omega)
     have dr:∀ h,sliceT .str h (.string ⟨⟨l⟩⟩) (some (.int .i64 ((j:Int)+1))) none none=some (.string ⟨⟨l.drop (j+1)⟩⟩):=fun h=>sv_drop (u:=j+1) (by omega)
     have bp:=qback_pure (l.take j) (by rw [List.length_take];omega)
     have w1:IntKind.i64.wrap ((j:Int)+1)=(j:Int)+1:=wrap64 (by omega) (by omega)
     have st:=rd_set hob hlo (l.drop (j+1))
     rw [hx] at ix
     rw [if_pos (by rw [hx])]
     generalize l.take j=T at *
     generalize l.drop (j+1)=D at *
     cases hb:(backL T).2 with
     | true =>
      rw [hb] at bp
      generalize (backL T).1=m at *
      simp -implicitDefEqProofs [k189_2,rop_nilCheck,l1,str_size,hj1,ix,tk,ret0 m221,bp,dr,w1,st]
     | false =>
      rw [hb] at bp
      generalize (backL T).1=m at *
      simp -implicitDefEqProofs [k189_2,rop_nilCheck,l1,str_size,hj1,ix,tk,ret0 m221,bp,fl]
    ·have hx':¬ ((l[j].toNat:Int)=(e.toNat:Int)):=fun q=>hx (hee.1 q)
     rw [if_neg (by simp [hx])]
     generalize l[j]=y at *
     simp -implicitDefEqProofs [k189_2,rop_nilCheck,l1,str_size,hj1,ix,hx',fl]
   ·have hj1:l.length≤j:=by omega
    rw [List.getElem?_eq_none hj1]
    simp -implicitDefEqProofs [k189_2,rop_nilCheck,l1,str_size,hj1,fl]
  ·simp -implicitDefEqProofs [k189_2]
  ·rfl
  ·rintro nx i ⟨h1,h2⟩ ih
   by_cases c1:i<l.length
   ·by_cases c2:i<21
    ·have c2':((i:Nat):Int)<21:=by omega
     have ix:=sv_idx (k:=.i64) c1
     have hdr:l.drop i=l[i] :: l.drop (i+1):=List.drop_eq_getElem_cons c1
     have hee:((l[i].toNat:Int)=(e.toNat:Int))↔l[i]=e:=by rw [Int.natCast_inj];exact UInt8.toNat_inj
     rw [show 21-i=(21-(i+1))+1 by omega,hdr]
     unfold scanE
     by_cases hx:l[i]=e
     ·rw [if_pos hx,Nat.add_zero]
      rw [hx] at ix
      simp -implicitDefEqProofs [r189_2,k189_2,rop_nilCheck,l1,str_size,c1,c2',ix,trim_le]
     ·have hx':¬ ((l[i].toNat:Int)=(e.toNat:Int)):=fun q=>hx (hee.1 q)
      have ih:=ih (i+1) (by omega) ⟨by omega,by omega⟩
      have w1:IntKind.i64.wrap ((i:Int)+1)=((i+1:Nat):Int):=wrap64 (by omega) (by omega)
      rw [if_neg hx,show i+(scanE e (21-(i+1)) (l.drop (i+1))+1)=i+1+scanE e (21-(i+1)) (l.drop (i+1)) by omega]
      generalize i+1+scanE e (21-(i+1)) (l.drop (i+1))=z at *
      generalize l[i]=y at *
      simp -implicitDefEqProofs [k189_2,-Int.natCast_add] at ih
      simp -implicitDefEqProofs [r189_2,k189_2,rop_nilCheck,l1,str_size,c1,c2',ix,hx',w1,trim_le,-Int.natCast_add]
      exact ih
    ·have c2':¬ ((i:Nat):Int)<21:=by omega
     rw [show 21-i=0 by omega]
     unfold scanE
     simp -implicitDefEqProofs [r189_2,k189_2,rop_nilCheck,l1,str_size,c1,c2',trim_le]
   ·have e0:scanE e (21-i) (l.drop i)=0:=by
     rw [List.drop_of_length_le (by omega)]
     cases 21-i <;> rfl
    rw [e0]
    simp -implicitDefEqProofs [r189_2,k189_2,rop_nilCheck,l1,str_size,c1,trim_le]
 rw [ret3t m189,key,Option.map_some,trim_le (by rw [List.length_set];exact Nat.le_refl _)]
end Go.Proofs.YtplebjehcgcdeaaGreatDoor.Bm
namespace Go.Proofs.YtplebjehcgcdeaaGreatDoor.Bm
open Go Go.RowKit
open Dw (RS numP numS closeS textS textR itemsL numsS numsR minI sepB)
theorem qnumber_spec {h:Heap} {b lo:Nat} {s:RS} {e:UInt8} (he:sepB e) (hob:h[b]?=some (rdC tRq s)) (hlo:lo≤b) (hl:s.1.length≤1000000) :
  retCall E (L E) lo false 147 [rdP b,.int .u8 e.toNat] h=some (.int .i64 (numS e 0 s).1,h.set b (rdC tRq (numS e 0 s).2)):=by
 have a1:=qahead_spec he hob hlo hl
 have key:L E 147 [rdP b,.int .u8 e.toNat] h lo=some (.int .i64 (numS e 0 s).1,h.set b (rdC tRq (numS e 0 s).2)):=by
  rw [L_fn F147 rfl,Dw.numS_zero]
  generalize numS e minI s=a at *
  obtain ⟨n,s1⟩:=a
  have h1:=rd_get (h:=h) (t:=tRq) s1 (ob_lt hob)
  have fl:=qfail_spec (lo:=lo) h1 hlo
  rw [List.set_set] at fl
  simp only at *
  by_cases hn:n<0
  ·rw [if_pos hn]
   simp -implicitDefEqProofs [r147,padS,a1,hn,fl]
  ·rw [if_neg hn]
   simp -implicitDefEqProofs [r147,padS,a1,hn]
 rw [ret3t m147,key,Option.map_some,trim_le (by rw [List.length_set];exact Nat.le_refl _)]
theorem qnum_spec {h:Heap} {b lo:Nat} {s:RS} (hob:h[b]?=some (rdC tRq s)) (hlo:lo≤b) (hl:s.1.length≤1000000) :
  retCall E (L E) lo false 89 [rdP b] h=some (.int .i64 (numS 59 0 s).1,h.set b (rdC tRq (numS 59 0 s).2)):=by
 have n1:=qnumber_spec Dw.sep59 hob hlo hl
 have e59:((59:UInt8).toNat:Int)=59:=rfl
 rw [e59] at n1
 have key:L E 89 [rdP b] h lo=some (.int .i64 (numS 59 0 s).1,h.set b (rdC tRq (numS 59 0 s).2)):=by
  rw [L_fn F89 rfl]
  simp -implicitDefEqProofs [r89,padS,n1]
 rw [ret3t m89,key,Option.map_some,trim_le (by rw [List.length_set];exact Nat.le_refl _)]
theorem qint_spec {h:Heap} {b lo:Nat} {s:RS} (hob:h[b]?=some (rdC tRq s)) (hlo:lo≤b) (hl:s.1.length≤1000000) :
  retCall E (L E) lo false 190 [rdP b] h=some (.int .i64 (numS 59 minI s).1,h.set b (rdC tRq (numS 59 minI s).2)):=by
 have n1:=qahead_spec Dw.sep59 hob hlo hl
 have e59:((59:UInt8).toNat:Int)=59:=rfl
 rw [e59] at n1
 have key:L E 190 [rdP b] h lo=some (.int .i64 (numS 59 minI s).1,h.set b (rdC tRq (numS 59 minI s).2)):=by
  rw [L_fn F190 rfl]
  simp -implicitDefEqProofs [r190,padS,n1]
 rw [ret3t m190,key,Option.map_some,trim_le (by rw [List.length_set];exact Nat.le_refl _)]
def headB (c:UInt8) (l:List UInt8):Bool:=match l with
 | []=>false
 | x :: _=>decide (x=c)
theorem qclose_spec {h:Heap} {b lo:Nat} {s:RS} {c:UInt8} (hob:h[b]?=some (rdC tRq s)) (hlo:lo≤b) :
  retCall E (L E) lo false 150 [rdP b,.int .u8 c.toNat] h=some (.bool (headB c s.1),h.set b (rdC tRq (closeS c s))):=by
 obtain ⟨l,bad⟩:=s
 have l1:=rd_rest hob (sz:=some 1)
 have fl:=qfail_spec (lo:=lo) hob hlo
 have key:L E 150 [rdP b,.int .u8 c.toNat] h lo=some (.bool (headB c l),h.set b (rdC tRq (closeS c (l,bad)))):=by
  rw [L_fn F150 rfl]
  unfold closeS headB
  cases l with
  | nil =>
   simp -implicitDefEqProofs [r150,padS,rop_nilCheck,l1,str_size,fl]
  | cons x r =>
   have c1:∀ h,sliceT .str h (.string ⟨⟨x :: r⟩⟩) (some (.int .i64 1)) none none=some (.string ⟨⟨r⟩⟩):=fun h=>by
    have:=sv_drop (h:=h) (l:=x :: r) (u:=1) (k:=.i64) (by simp)
    simpa using this
   have hx0:¬ ((r.length:Int)+1=0):=by omega
   have st:=rd_set hob hlo r
   have ix:indexT .str (.string ⟨⟨x :: r⟩⟩) (.int .i64 0)=some (.int .u8 x.toNat):=sv_head
   have hxc:((x.toNat:Int)=(c.toNat:Int))↔x=c:=by rw [Int.natCast_inj];exact UInt8.toNat_inj
   by_cases hx:x=c
   ·subst hx
    simp -implicitDefEqProofs [r150,padS,rop_nilCheck,l1,str_size,c1,hx0,st,ix]
   ·have hx':¬ ((x.toNat:Int)=(c.toNat:Int)):=fun q=>hx (hxc.1 q)
    simp -implicitDefEqProofs [r150,padS,rop_nilCheck,l1,str_size,fl,hx0,ix,hx,hx']
 rw [ret3t m150,key,Option.map_some,trim_le (by rw [List.length_set];exact Nat.le_refl _)]
theorem closeS_head {c:UInt8} {l:List UInt8}:headB c l=true→(closeS c (l,false)).2=false:=by
 unfold headB closeS
 cases l with
 | nil=>intro h;cases h
 | cons x r =>
  intro h
  have h:x=c:=of_decide_eq_true h
  simp [h]
theorem closeS_nohead {c:UInt8} {s:RS}:headB c s.1=false→closeS c s=([],true):=by
 unfold headB closeS
 cases s.1 with
 | nil=>intro;rfl
 | cons x r =>
  intro h
  have h:¬ x=c:=of_decide_eq_false h
  simp [h]
theorem qtext_spec {h:Heap} {b lo:Nat} {s:RS} (hob:h[b]?=some (rdC tRq s)) (hlo:lo≤b) (hl:s.1.length≤1000000) :
  retCall E (L E) lo false 91 [rdP b] h=some (.string ⟨⟨(textR s).1⟩⟩,h.set b (rdC tRq (textR s).2)):=by
 have n1:=qnumber_spec Dw.sep58 hob hlo hl
 have e58:((58:UInt8).toNat:Int)=58:=rfl
 rw [e58] at n1
 have hge:=Dw.numS_ge (e:=58) (least:=0) (s:=s) (Int.le_refl _)
 have hle:=numS_len (e:=58) (least:=0) s
 have key:L E 91 [rdP b] h lo=some (.string ⟨⟨(textR s).1⟩⟩,h.set b (rdC tRq (textR s).2)):=by
  rw [L_fn F91 rfl]
  unfold textR textS
  generalize numS 58 0 s=a at *
  obtain ⟨z,s1⟩:=a
  obtain ⟨n,rfl⟩:∃ n:Nat,z=n:=⟨z.toNat,(Int.toNat_of_nonneg hge).symm⟩
  simp only [Int.toNat_natCast] at *
  have hb:=ob_lt hob
  have h1:=rd_get (h:=h) (t:=tRq) s1 hb
  have l1:=rd_rest h1 (sz:=some 1)
  have l2:=rd_bad h1 (sz:=some 1)
  have fl:=qfail_spec (lo:=lo) h1 hlo
  rw [List.set_set] at fl
  cases hb1:s1.2 with
  | true =>
   rw [hb1] at l2
   rw [if_pos rfl]
   simp -implicitDefEqProofs [r91,padS,n1,rop_nilCheck,l2,fl,-Int.natCast_add]
  | false =>
   rw [hb1] at l2
   rw [if_neg (by simp)]
   by_cases hc:s1.1.length≤n
   ·have hc':(n:Int) ≥ s1.1.length:=by omega
    have eT:(if (s1.1.length:Int)<n then (([],([],true)):List UInt8 × RS) else if (closeS 44 (s1.1.drop n,false)).2=true then ([],closeS 44 (s1.1.drop n,false)) else (s1.1.take n,closeS 44 (s1.1.drop n,false)))=([],([],true)):=by
     rw [List.drop_of_length_le hc]
     split <;> rfl
    rw [eT]
    have hc2:(s1.1.length:Int)≤n:=by omega
    simp -implicitDefEqProofs [r91,p91,n1,rop_nilCheck,l1,l2,str_size,hc2,fl,-Int.natCast_add]
   ·have c1:∀ h,sliceT .str h (.string ⟨⟨s1.1⟩⟩) none (some (.int .i64 (n:Int))) none=some (.string ⟨⟨s1.1.take n⟩⟩):=fun h=>sv_take (by omega)
    have c2:∀ h,sliceT .str h (.string ⟨⟨s1.1⟩⟩) (some (.int .i64 (n:Int))) none none=some (.string ⟨⟨s1.1.drop n⟩⟩):=fun h=>sv_drop (by omega)
    have st:=rd_set h1 hlo (s1.1.drop n)
    rw [List.set_set,hb1] at st
    have h2:=rd_get (h:=h) (t:=tRq) (s1.1.drop n,false) hb
    have cl:=qclose_spec (c:=44) (lo:=lo) h2 hlo
    rw [List.set_set] at cl
    simp only at cl
    rw [show (((44:UInt8).toNat:Nat):Int)=44 from rfl] at cl
    have hc2:¬ (s1.1.length:Int)≤n:=by omega
    have hc3:¬ (s1.1.length:Int)<n:=by omega
    rw [if_neg hc3]
    cases hh:headB 44 (s1.1.drop n) with
    | true =>
     rw [hh] at cl
     have hz:=closeS_head hh
     generalize closeS 44 (s1.1.drop n,false)=s2 at *
     rw [if_neg (by rw [hz];simp)]
     simp -implicitDefEqProofs [r91,p91,n1,rop_nilCheck,l1,l2,str_size,hc2,c1,c2,st,cl,-Int.natCast_add]
    | false =>
     rw [hh] at cl
     have hz:=closeS_nohead (c:=44) (s:=(s1.1.drop n,false)) hh
     rw [hz] at cl ⊢
     rw [if_pos rfl]
     simp -implicitDefEqProofs [r91,p91,n1,rop_nilCheck,l1,l2,str_size,hc2,c1,c2,st,cl,-Int.natCast_add]
 rw [ret3t m91,key,Option.map_some,trim_le (by rw [List.length_set];exact Nat.le_refl _)]
theorem qopen_call (l:List UInt8) (h:Heap) (lo:Nat):retCall E (L E) lo false 88 [.string ⟨⟨l⟩⟩] h=some (rdP h.length,h++[rdC tRq (l,false)]):=by
 have b1:buildT (.fs ⟨[.string ⟨⟨[]⟩⟩,.bool false]⟩ ⟨[(0,1),(1,1)]⟩) #[(0,.string ⟨⟨l⟩⟩)]=some (.agg ⟨[.string ⟨⟨l⟩⟩,.bool false]⟩):=by kernel_rfl
 rw [ret2 m88,L_fn F88 rfl]
 unfold rdC rdP
 simp -implicitDefEqProofs [r88,padS,b1]
theorem qdone_call {h:Heap} {b lo:Nat} {s:RS} (hob:h[b]?=some (rdC tRq s)):retCall E (L E) lo false 92 [rdP b] h=some (.bool (!s.2 && decide (s.1=[])),h):=by
 have l1:=rd_rest hob (sz:=some 1)
 have l2:=rd_bad hob (sz:=some 1)
 have key:L E 92 [rdP b] h lo=some (.bool (!s.2 && decide (s.1=[])),h):=by
  rw [L_fn F92 rfl]
  cases hb:s.2 with
  | true =>
   rw [hb] at l2
   simp -implicitDefEqProofs [r92,padS,rop_nilCheck,l2]
  | false =>
   rw [hb] at l2
   simp -implicitDefEqProofs [r92,padS,rop_nilCheck,l1,l2]
 rw [ret3t m92,key,Option.map_some,trim_le (Nat.le_refl _)]
end Go.Proofs.YtplebjehcgcdeaaGreatDoor.Bm
namespace Go.Proofs.YtplebjehcgcdeaaGreatDoor.Bm
open Go Go.RowKit
open Dw (RS Vol Ent Phs Drw numS closeS itemsL numsR minI okNums volOf)
theorem numsR_len (s:RS):(numsR s).2.1.length≤s.1.length:=by
 unfold numsR
 simp only
 have h1:=closeS_len (c:=93) (itemsL (numS 91 0 s).1.toNat (numS 91 0 s).2 []).2
 have h2:=itemsL_len (numS 91 0 s).1.toNat (numS 91 0 s).2 []
 have h3:=numS_len (e:=91) (least:=0) s
 split
 ·simp only;omega
 ·split <;> simp only <;> omega
theorem numsR_bad {s:RS} (h:(numsR s).2.2=true):(numsR s).1=[]:=by
 unfold numsR at h ⊢
 simp only at h ⊢
 split
 ·rfl
 ·rename_i q
  rw [if_neg q] at h
  split
  ·rfl
  ·rename_i q2
   rw [if_neg q2] at h
   exact absurd h q2
theorem qnums_key {h:Heap} {b lo:Nat} {s:RS} (hob:h[b]?=some (rdC tRq s)) (hlo:lo≤b) (hl:s.1.length≤100000) :
  ∃ o,L E 148 [rdP b] h lo=some (intE.o (kd (numsR s).2.2) (numsR s).1,(h.set b (rdC tRq (numsR s).2))++[o]):=by
 have hb:=ob_lt hob
 have n1:=qnumber_spec (e:=91) Dw.sep91 hob hlo (by omega)
 have e91:((91:UInt8).toNat:Int)=91:=rfl
 rw [e91] at n1
 have hge:=Dw.numS_ge (e:=91) (least:=0) (s:=s) (Int.le_refl _)
 have hle:=numS_len (e:=91) (least:=0) s
 have hin:=Dw.numS_inR (e:=91) (least:=0) (s:=s)
 have esl:Value.slice (some ⟨h.length,0,some 0⟩) 0 0=Enc.sl h.length ([]:List Int):=rfl
 have erow:AObj.cells 3 [] 1=intE.row 3 []:=rfl
 rw [L_fn F148 rfl]
 unfold numsR
 generalize numS 91 0 s=a at *
 obtain ⟨z,s1⟩:=a
 obtain ⟨n,rfl⟩:∃ n:Nat,z=n:=⟨z.toNat,(Int.toNat_of_nonneg hge).symm⟩
 simp only [Int.toNat_natCast] at *
 simp -implicitDefEqProofs [r148,p148,n1,prep_new,newK_nil s3,esl,erow,-Int.natCast_add,-Int.natCast_mul]
 have hp1:pot s1≤100001:=by unfold pot;split <;> omega
 rw [LL_rec (α:=RS × Nat × List Int) (s1,0,[]) (fun a=>[(4,Enc.sl h.length a.2.2),(5,.int .i64 (a.2.1:Int))]) (fun a=>h.set b (rdC tRq a.1)++[intE.row 3 a.2.2])
  (fun a=>(.exit 0,[(4,Enc.sl h.length (itemsL (n-a.2.1) a.1 a.2.2).1),(5,undef)],h.set b (rdC tRq (itemsL (n-a.2.1) a.1 a.2.2).2)++[intE.row 3 (itemsL (n-a.2.1) a.1 a.2.2).1]))
  (fun a=>pot a.1+a.2.2.length≤100001∧a.2.1≤n) (fun a=>n-a.2.1) ⟨hp1,Nat.zero_le _⟩]
 ·rw [Nat.sub_zero]
  generalize itemsL n s1 []=c
  have h3:(h.set b (rdC tRq c.2)++[intE.row 3 c.1])[b]?=some (rdC tRq c.2):=by rw [List.getElem?_append_left (by rw [List.length_set];exact hb)];exact rd_get c.2 hb
  have l3:=rd_bad h3 (sz:=some 1)
  have cl:=qclose_spec (c:=93) (lo:=lo) h3 hlo
  rw [show (((93:UInt8).toNat:Nat):Int)=93 from rfl] at cl
  have eset2:∀ s':RS,(h.set b (rdC tRq c.2)++[intE.row 3 c.1]).set b (rdC tRq s')=h.set b (rdC tRq s')++[intE.row 3 c.1]:=fun s'=>by
   rw [List.set_append_left _ _ (by rw [List.length_set];exact hb),List.set_set]
  rw [eset2] at cl
  cases hq:c.2.2 with
  | true =>
   rw [hq] at l3
   simp only [if_true]
   refine ⟨intE.row 3 c.1,?_⟩
   simp -implicitDefEqProofs [k148_4,rop_nilCheck,l3]
   rw [hq];rfl
  | false =>
   rw [hq] at l3
   rw [if_neg (by simp)]
   cases hh:headB 93 c.2.1 with
   | false =>
    rw [hh] at cl
    rw [closeS_nohead hh] at cl ⊢
    rw [if_pos rfl]
    refine ⟨intE.row 3 c.1,?_⟩
    simp -implicitDefEqProofs [k148_4,rop_nilCheck,l3,cl]
    rfl
   | true =>
    rw [hh] at cl
    have hz:(closeS 93 c.2).2=false:=by
     have:=closeS_head hh
     rwa [show ((c.2.1,false):RS)=c.2 from Prod.ext rfl hq.symm] at this
    rw [if_neg (by rw [hz];simp)]
    generalize closeS 93 c.2=s4 at *
    have ht:(h.set b (rdC tRq s4)++[intE.row 3 c.1])[h.length]?=some (intE.row 3 c.1):=by rw [List.getElem?_append_right (by rw [List.length_set];exact Nat.le_refl _),List.length_set,Nat.sub_self];rfl
    have fr:=Enc.frz_sl (P:=E.P) (lo:=lo) ht s3 aI (by omega)
    by_cases h0:c.1.length=0
    ·refine ⟨intE.row 3 c.1,?_⟩
     rw [if_pos h0] at fr
     simp -implicitDefEqProofs [k148_4,rop_nilCheck,l3,cl,prep_frz,fr,hz]
     rfl
    ·refine ⟨.dead,?_⟩
     rw [if_neg h0,List.set_append_right _ _ (by rw [List.length_set];exact Nat.le_refl _),List.length_set,Nat.sub_self,List.set_cons_zero] at fr
     simp -implicitDefEqProofs [k148_4,rop_nilCheck,l3,cl,prep_frz,fr,hz]
     rfl
 ·simp -implicitDefEqProofs [k148_4]
 ·rfl
 ·rintro nx ⟨s2,i,out⟩ ⟨hi1,hi2⟩ ih
  simp only at hi1 hi2
  have h2:(h.set b (rdC tRq s2)++[intE.row 3 out])[b]?=some (rdC tRq s2):=by rw [List.getElem?_append_left (by rw [List.length_set];exact hb)];exact rd_get s2 hb
  have l2:=rd_bad h2 (sz:=some 1)
  by_cases hi:i<n
  ·have hii:((i:Nat):Int)<(n:Int):=by omega
   rw [show n-i=(n-(i+1))+1 by omega]
   cases hs:s2.2 with
   | true =>
    rw [hs] at l2
    have e0:itemsL (n-(i+1)+1) s2 out=(out,s2):=by unfold itemsL;rw [if_pos hs]
    rw [e0]
    simp -implicitDefEqProofs [r148_4,k148_4,trim_le,rop_nilCheck,l2,hii,-Int.natCast_add]
   | false =>
    rw [hs] at l2
    have hp:=numS_pot (e:=59) (least:=minI) hs
    have i1:=qint_spec (lo:=lo) h2 hlo (by unfold pot at hi1;omega)
    have eset2:∀ s':RS,(h.set b (rdC tRq s2)++[intE.row 3 out]).set b (rdC tRq s')=h.set b (rdC tRq s')++[intE.row 3 out]:=fun s'=>by
     rw [List.set_append_left _ _ (by rw [List.length_set];exact hb),List.set_set]
    rw [eset2] at i1
    have e3:itemsL (n-(i+1)+1) s2 out=itemsL (n-(i+1)) (numS 59 minI s2).2 (out++[(numS 59 minI s2).1]):=by
     conv=>lhs;unfold itemsL
     rw [if_neg (by rw [hs];simp)]
    rw [e3]
    have ih:=ih ((numS 59 minI s2).2,i+1,out++[(numS 59 minI s2).1]) (by simp only;omega) ⟨by simp only [List.length_append,List.length_singleton];omega,by simp only;omega⟩
    generalize numS 59 minI s2=a at *
    have ht:(h.set b (rdC tRq a.2)++[intE.row 3 out])[h.length]?=some (intE.row 3 out):=by rw [List.getElem?_append_right (by rw [List.length_set];exact Nat.le_refl _),List.length_set,Nat.sub_self];rfl
    have ap:=app_int (lo:=lo) a.1 ht (by omega) (by unfold pot at hi1;omega)
    rw [List.set_append_right _ _ (by rw [List.length_set];exact Nat.le_refl _),List.length_set,Nat.sub_self,List.set_cons_zero] at ap
    have li:=fun h=>lit_int h a.1
    have w1:IntKind.i64.wrap ((i:Int)+1)=((i+1:Nat):Int):=(wrap64 (by omega) (by have:=hin.2;omega)).trans (by omega)
    simp -implicitDefEqProofs [k148_4,-Int.natCast_add] at ih
    simp -implicitDefEqProofs [r148_4,k148_4,trim_le,rop_nilCheck,l2,hii,i1,li,ap,w1,-Int.natCast_add]
    exact ih
  ·have hii:¬ ((i:Nat):Int)<(n:Int):=by omega
   rw [show n-i=0 by omega,show itemsL 0 s2 out=(out,s2) from rfl]
   simp -implicitDefEqProofs [r148_4,k148_4,trim_le,hii,-Int.natCast_add]
theorem qnums_spec {h:Heap} {b lo:Nat} {s:RS} (hob:h[b]?=some (rdC tRq s)) (hlo:lo≤b) (hl:s.1.length≤100000) (hbl:h.all (belowO h.length)=true) :
  retCall E (L E) lo false 148 [rdP b] h=some (intE.o (kd (numsR s).2.2) (numsR s).1,h.set b (rdC tRq (numsR s).2)):=by
 obtain ⟨o,key⟩:=qnums_key hob hlo hl
 have e:(h.set b (rdC tRq (numsR s).2)).length=h.length:=List.length_set
 rw [ret3t m148,key,Option.map_some]
 rw [trim_cut (by rw [List.length_append,e];simp) (by simp only [List.all_cons,List.all_nil,Bool.and_true];exact Enc.o_bel) (by rw [List.take_left' e];exact rd_all _ hbl),List.take_left' e]
end Go.Proofs.YtplebjehcgcdeaaGreatDoor.Bm
namespace Go.Proofs.YtplebjehcgcdeaaGreatDoor.Bm
open Go Go.RowKit
open Dw (RS Vol Ent Phs Drw numS closeS itemsL numsR minI okNums volOf vol0)
abbrev nilV:AObj:=.cells tV [.int .i64 0,.int .i64 0,.int .i64 0,.int .i64 0,.int .i64 0,.int .i64 0,.int .i64 0,.int .i64 0,.bool false] 0
theorem numsR_ok (s:RS):Enc.Ok (kd (numsR s).2.2) (numsR s).1:=by
 intro hk
 unfold kd at hk
 split at hk
 ·exact numsR_bad ‹_›
 ·cases hk
theorem kd_nine {s:RS} {l:List Int} (hok:Enc.Ok (kd s.2) l) (h:l≠[]):kd s.2=some false:=by
 cases hq:s.2 with
 | false=>rfl
 | true =>
  rw [hq] at hok
  exact absurd (hok rfl) h
theorem mid_put {g X:Heap} {lo n:Nat} {t:TypeId} {c d:List Value} (hc:c.length=n) (hd:d.length=n) (h0:0<n) (hlo:lo≤g.length):storeT (some n) (g ++ .cells t c 0 :: X) lo (.agg ⟨d⟩) (.pointer (some ⟨g.length,0,none⟩))=some (g ++ .cells t d 0 :: X):=by
 have ho:(g++AObj.cells t c 0 :: X)[g.length]?=some (.cells t c 0):=by rw [List.getElem?_append_right (Nat.le_refl _),Nat.sub_self];rfl
 have:=obj_put (n:=n) (lo:=lo) (d:=d) ho hc hd h0 hlo
 unfold cAt at this
 rw [this,List.set_append_right _ _ (Nat.le_refl _),Nat.sub_self];rfl
theorem mid_all {g X:Heap} {n:Nat} {t:TypeId} {c:List Value} (hc:c.length=n):loadT ⟨some true,some n⟩ (g ++ .cells t c 0 :: X) (.pointer (some ⟨g.length,0,none⟩))=some (.agg ⟨c⟩):=by
 have ho:(g++AObj.cells t c 0 :: X)[g.length]?=some (.cells t c 0):=by rw [List.getElem?_append_right (Nat.le_refl _),Nat.sub_self];rfl
 exact obj_all (n:=n) ho hc
theorem qvol_key {h:Heap} {b lo:Nat} {s:RS} (hob:h[b]?=some (rdC tRq s)) (hlo:lo≤b) (hl:s.1.length≤100000) (hbl:h.all (belowO h.length)=true) :
  ∃ X,L E 90 [rdP b] h lo=some (.agg ⟨volR.enc (Dw.volR s).1⟩,h.set b (rdC tRq (Dw.volR s).2)++X):=by
 have hb:=ob_lt hob
 have hob1:(h++[nilV])[b]?=some (rdC tRq s):=by rw [List.getElem?_append_left hb];exact hob
 have hbl1:(h++[nilV]).all (belowO (h++[nilV]).length)=true:=by
  rw [List.all_append,Bool.and_eq_true,List.length_append]
  exact ⟨List.all_eq_true.2 fun x hx=>belO_mono (by omega) (List.all_eq_true.1 hbl x hx),rfl⟩
 have ns:=qnums_spec hob1 hlo hl hbl1
 have eset:∀ s:RS,(h++[nilV]).set b (rdC tRq s)=h.set b (rdC tRq s)++[nilV]:=fun s=>List.set_append_left _ _ hb
 rw [eset] at ns
 have eg:∀ s,(h.set b (rdC tRq s)).length=h.length:=fun s=>List.length_set
 have hok:=numsR_ok s
 have hlo1:lo≤List.length h:=by omega
 have hlo2:lo≤List.length h+1:=by omega
 rw [L_fn F90 rfl]
 unfold Dw.volR
 simp only
 generalize numsR s=a at *
 obtain ⟨l,s3⟩:=a
 simp only at *
 have ll:∀ h,lenT .sl h (intE.o (kd s3.2) l)=some (.int .i64 l.length):=fun h=>Enc.o_len (h:=h) hok
 have hget:∀ X,(h.set b (rdC tRq s3)++X)[b]?=some (rdC tRq s3):=fun X=>by rw [List.getElem?_append_left (by rw [eg];exact hb)];exact rd_get s3 hb
 have mk:∀ X,storeT (some 1) (h.set b (rdC tRq s3)++X) lo (.bool true) (.pointer (some ⟨b,1,none⟩))=some (h.set b (rdC tRq (s3.1,true))++X):=fun X=>by
  rw [rd_mark (hget X) hlo true,List.set_append_left _ _ (by rw [eg];exact hb),List.set_set]
 have bV0:buildT (.fs ⟨[.int .i64 0,.int .i64 0,.int .i64 0,.int .i64 0,.int .i64 0,.int .i64 0,.int .i64 0,.int .i64 0,.bool false]⟩ ⟨[(0,6),(6,1),(7,1),(8,1)]⟩) #[]=some (.agg ⟨volR.enc vol0⟩):=by kernel_rfl
 by_cases h9:l.length=9
 ·rw [if_neg (by simp [h9])]
  match l,h9 with
  | [a0,a1,a2,a3,a4,a5,a6,a7,a8],_ =>
   have hk:=kd_nine hok (by simp)
   rw [hk] at ns ll
   have eok:okNums [a0,a1,a2,a3,a4,a5,a6,a7,a8]=(decide (a8=0) || decide (a8=1)):=rfl
   have evol:volOf [a0,a1,a2,a3,a4,a5,a6,a7,a8]=⟨a0,a1,a2,a3,a4,a5,a6,a7,decide (a8=1)⟩:=rfl
   rw [eok,evol]
   have hfin:∀ s',((h.set b (rdC tRq s')).length)=h.length:=eg
   have s7:∀ s',storeT (some 4) (h.set b (rdC tRq s')++[nilV,.cells 56 [.int .i64 0,.int .i64 0,.int .i64 0,.int .i64 0] 0]) lo (.agg ⟨[.int .i64 a0,.int .i64 a1,.int .i64 a2,.int .i64 a3]⟩) (.pointer (some ⟨h.length+1,0,none⟩))=some (h.set b (rdC tRq s')++[nilV,.cells 56 [.int .i64 a0,.int .i64 a1,.int .i64 a2,.int .i64 a3] 0]):=fun s'=>by
    have:=snoc_put (g:=h.set b (rdC tRq s')++[nilV]) (lo:=lo) (t:=56) (n:=4) (c:=[.int .i64 0,.int .i64 0,.int .i64 0,.int .i64 0]) (d:=[.int .i64 a0,.int .i64 a1,.int .i64 a2,.int .i64 a3]) rfl rfl (by decide) (by rw [List.length_append,eg];omega)
    rw [List.length_append,eg,List.append_assoc,List.append_assoc] at this
    exact this
   have d7:∀ s',loadT ⟨some true,some 4⟩ (h.set b (rdC tRq s')++[nilV,.cells 56 [.int .i64 a0,.int .i64 a1,.int .i64 a2,.int .i64 a3] 0]) (.pointer (some ⟨h.length+1,0,none⟩))=some (.agg ⟨[.int .i64 a0,.int .i64 a1,.int .i64 a2,.int .i64 a3]⟩):=fun s'=>by
    have:=snoc_all (g:=h.set b (rdC tRq s')++[nilV]) (t:=56) (n:=4) (c:=[.int .i64 a0,.int .i64 a1,.int .i64 a2,.int .i64 a3]) rfl
    rw [List.length_append,eg,List.append_assoc] at this
    exact this
   have pV:∀ s' (v:Vol) X,storeT (some 9) (h.set b (rdC tRq s')++nilV :: X) lo (.agg ⟨volR.enc v⟩) (.pointer (some ⟨h.length,0,none⟩))=some (h.set b (rdC tRq s') ++ .cells tV (volR.enc v) 0 :: X):=fun s' v X=>by
    have:=mid_put (g:=h.set b (rdC tRq s')) (X:=X) (lo:=lo) (t:=tV) (n:=9) (c:=[.int .i64 0,.int .i64 0,.int .i64 0,.int .i64 0,.int .i64 0,.int .i64 0,.int .i64 0,.int .i64 0,.bool false]) (d:=volR.enc v) rfl rfl (by decide) (by rw [eg];omega)
    rwa [eg] at this
   have gV:∀ s' (v:Vol) X,loadT ⟨some true,some 9⟩ (h.set b (rdC tRq s') ++ .cells tV (volR.enc v) 0 :: X) (.pointer (some ⟨h.length,0,none⟩))=some (.agg ⟨volR.enc v⟩):=fun s' v X=>by
    have:=mid_all (g:=h.set b (rdC tRq s')) (X:=X) (n:=9) (t:=tV) (c:=volR.enc v) rfl
    rwa [eg] at this
   have xC:∃ x:Bool,decide (a8=1)=x:=⟨_,rfl⟩
   obtain ⟨x,hx⟩:=xC
   have b9:buildT (.fs ⟨[.int .i64 0,.int .i64 0,.int .i64 0,.int .i64 0,.int .i64 0,.int .i64 0,.int .i64 0,.int .i64 0,.bool false]⟩ ⟨[(0,6),(6,1),(7,1),(8,1)]⟩) #[(0,.agg ⟨[.int .i64 a0,.int .i64 a1,.int .i64 a2,.int .i64 a3,.int .i64 a4,.int .i64 a5]⟩),(1,.int .i64 a6),(2,.int .i64 a7),(3,.bool x)]=some (.agg ⟨volR.enc ⟨a0,a1,a2,a3,a4,a5,a6,a7,x⟩⟩):=bld9
   rw [hx]
   have pV1:=fun s' X=>pV s' ⟨a0,a1,a2,a3,a4,a5,a6,a7,x⟩ X
   have gV1:=fun s' X=>gV s' ⟨a0,a1,a2,a3,a4,a5,a6,a7,x⟩ X
   generalize volR.enc ⟨a0,a1,a2,a3,a4,a5,a6,a7,x⟩=LV at *
   by_cases hgood:a8=0∨a8=1
   ·have hg2:(decide (a8=0) || x)=true:=by rw [← hx];simpa using hgood
    rw [hg2,Bool.not_true,Bool.or_false]
    refine ⟨[.cells tV LV 0,.cells 56 [.int .i64 a0,.int .i64 a1,.int .i64 a2,.int .i64 a3] 0],?_⟩
    rcases hgood with rfl | rfl
    ·obtain rfl:x=false:=by rw [← hx];rfl
     simp -implicitDefEqProofs [r90,p90,ns,nine_len,nine0,nine1,nine2,nine3,nine4,nine5,nine6,nine7,nine8,bld4,bld6,b9,eg,s7,d7,pV1,gV1]
    ·obtain rfl:x=true:=by rw [← hx];rfl
     simp -implicitDefEqProofs [r90,p90,ns,nine_len,nine0,nine1,nine2,nine3,nine4,nine5,nine6,nine7,nine8,bld4,bld6,b9,eg,s7,d7,pV1,gV1]
   ·have g0:¬ a8=0:=fun q=>hgood (.inl q)
    have g1:¬ a8=1:=fun q=>hgood (.inr q)
    obtain rfl:x=false:=by rw [← hx];simp [g1]
    rw [decide_eq_false g0,Bool.or_false,Bool.not_false,Bool.or_true]
    refine ⟨[.cells tV LV 0,.cells 56 [.int .i64 a0,.int .i64 a1,.int .i64 a2,.int .i64 a3] 0],?_⟩
    simp -implicitDefEqProofs [r90,p90,ns,nine_len,nine0,nine1,nine2,nine3,nine4,nine5,nine6,nine7,nine8,bld4,bld6,b9,eg,s7,d7,g0,g1,rop_nilCheck,mk,pV1,gV1]
 ·have h9':¬ (l.length:Int)=9:=by omega
  rw [if_pos (by simpa using h9)]
  have pV0:storeT (some 9) (h.set b (rdC tRq (s3.1,true))++[nilV]) lo (.agg ⟨volR.enc vol0⟩) (.pointer (some ⟨h.length,0,none⟩))=some (h.set b (rdC tRq (s3.1,true))++[nilV]):=by
   have:=mid_put (g:=h.set b (rdC tRq (s3.1,true))) (X:=[]) (lo:=lo) (t:=tV) (n:=9) (c:=[.int .i64 0,.int .i64 0,.int .i64 0,.int .i64 0,.int .i64 0,.int .i64 0,.int .i64 0,.int .i64 0,.bool false]) (d:=volR.enc vol0) rfl rfl (by decide) (by rw [eg];omega)
   rwa [eg] at this
  have gV0:loadT ⟨some true,some 9⟩ (h.set b (rdC tRq (s3.1,true))++[nilV]) (.pointer (some ⟨h.length,0,none⟩))=some (.agg ⟨volR.enc vol0⟩):=by
   have:=mid_all (g:=h.set b (rdC tRq (s3.1,true))) (X:=[]) (n:=9) (t:=tV) (c:=volR.enc vol0) rfl
   rw [eg] at this
   exact this
  refine ⟨[nilV],?_⟩
  generalize volR.enc vol0=LV at *
  simp -implicitDefEqProofs [r90,p90,ns,ll,h9',rop_nilCheck,mk,bV0,pV0,gV0]
theorem qvol_spec {h:Heap} {b lo:Nat} {s:RS} (hob:h[b]?=some (rdC tRq s)) (hlo:lo≤b) (hl:s.1.length≤100000) (hbl:h.all (belowO h.length)=true) :
  retCall E (L E) lo false 90 [rdP b] h=some (.agg ⟨volR.enc (Dw.volR s).1⟩,h.set b (rdC tRq (Dw.volR s).2)):=by
 obtain ⟨X,key⟩:=qvol_key hob hlo hl hbl
 have e:(h.set b (rdC tRq (Dw.volR s).2)).length=h.length:=List.length_set
 rw [ret3t m90,key,Option.map_some]
 by_cases hX:X=[]
 ·subst hX
  rw [List.append_nil,trim_le (by rw [e];exact Nat.le_refl _)]
 ·rw [trim_cut (by rw [List.length_append,e];have:=List.length_pos_iff.2 hX;omega) rfl (by rw [List.take_left' e];exact rd_all _ hbl),List.take_left' e]
end Go.Proofs.YtplebjehcgcdeaaGreatDoor.Bm
