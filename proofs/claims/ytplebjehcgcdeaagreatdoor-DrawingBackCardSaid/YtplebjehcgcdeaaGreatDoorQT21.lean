/-
 Does a volume meet one of those ahead? Conditions: valid volumes; lists that are not too long.
-/
import Derived.Test.YtplebjehcgcdeaaGreatDoorQT20
namespace Go.Proofs.YtplebjehcgcdeaaGreatDoor.Bm
open Go Go.RowKit
open Dw (RS Vol Ent Phs Drw numS textS numsS volsL givesL phaseS okNums volOf)
theorem volsL_len:∀ (n:Nat) (s:RS) (out:List Vol),(volsL n s out).2.2.1.length≤s.1.length
 | 0,s,out=>Nat.le_refl _
 | n+1,s,out=>by
  unfold volsL
  have h2:=numsS_len s
  split
  ·have h1:=volsL_len n (numsS s).2 (out++[volOf (numsS s).1])
   omega
  ·exact h2
set_option maxHeartbeats 2000000 in
theorem phase_key {h:Heap} {b lo:Nat} {s:RS} (hob:h[b]?=some (rdC tW s)) (hlo:lo≤b) (hl:s.1.length≤100000) (hbl:h.all (belowO h.length)=true) :
  L E 86 [rdP b] h lo=some (.tuple ⟨[.agg ⟨phR.enc (phaseS s).1⟩,.bool (phaseS s).2.1]⟩,PR (h.set b (rdC tW (phaseS s).2.2)) (phaseS s).1.vols (phaseS s).1.gives):=by
 have hb:=ob_lt hob
 have eg:∀ s,(h.set b (rdC tW s)).length=h.length:=fun s=>List.length_set
 have h1:(PH h [] [])[b]?=some (rdC tW s):=by rw [PH_get hb];exact hob
 have n1:=num_spec h1 hlo (by omega)
 rw [PH_set hb] at n1
 have c1:=fun σ=>nc1 (h:=h) (lo:=lo) (by omega) σ
 have c2:=fun σ=>nc2 (h:=h) (lo:=lo) (by omega) σ
 have hge:=Dw.numS_ge (e:=59) (least:=0) (s:=s) (Int.le_refl _)
 have hle:=numS_len (e:=59) (least:=0) s
 rw [L_fn F86 rfl]
 unfold phaseS
 generalize numS 59 0 s=a at *
 obtain ⟨z,s1⟩:=a
 obtain ⟨n,rfl⟩:∃ n:Nat,z=n:=⟨z.toNat,(Int.toNat_of_nonneg hge).symm⟩
 simp only [Int.toNat_natCast] at *
 have fz:∀ s v e,freezeV E.P depth lo (PH (h.set b (rdC tW s)) v e) (.pointer (some ⟨h.length+1,0,none⟩))=some (cptr (.agg ⟨[lst false (volR.vals v),lst false (entR.vals e)]⟩),PD (h.set b (rdC tW s)) v e):=fun s v e=>by
  have:=PH_frz (g:=h.set b (rdC tW s)) (v:=v) (e:=e) (lo:=lo) (by rw [eg];omega)
  rwa [eg] at this
 have pu:∀ s v e,storeT (some 2) (PD (h.set b (rdC tW s)) v e) lo (.agg ⟨[lst false (volR.vals v),lst false (entR.vals e)]⟩) (.pointer (some ⟨h.length,0,none⟩))=some (PR (h.set b (rdC tW s)) v e):=fun s v e=>by
  have:=PD_put (g:=h.set b (rdC tW s)) (v:=v) (e:=e) (lo:=lo) (by rw [eg];omega)
  rwa [eg] at this
 have ge:∀ s v e,loadT ⟨some true,some 2⟩ (PR (h.set b (rdC tW s)) v e) (.pointer (some ⟨h.length,0,none⟩))=some (.agg ⟨[lst false (volR.vals v),lst false (entR.vals e)]⟩):=fun s v e=>by
  have:=PR_get (g:=h.set b (rdC tW s)) (v:=v) (e:=e)
  rwa [eg] at this
 have pe:∀ v e,phR.enc ⟨v,e⟩=[lst false (volR.vals v),lst false (entR.vals e)]:=fun _ _=>rfl
 by_cases q1:(40:Int)<n
 ·rw [if_pos q1]
  simp -implicitDefEqProofs [r86,p86,prep_newc,c1,c2,n1,q1,prep_frz,fz,pu,ge,pe,-Int.natCast_add,-Int.natCast_mul]
 ·rw [if_neg q1]
  have hn40:n≤40:=by omega
  simp -implicitDefEqProofs [r86,p86,prep_newc,c1,c2,n1,q1,-Int.natCast_add,-Int.natCast_mul]
  rw [LL_rec (α:=RS × Nat × List Vol) (s1,0,[]) (fun a=>[(15,.int .i64 (a.2.1:Int))]) (fun a=>PH (h.set b (rdC tW a.1)) a.2.2 [])
   (fun a=>if (volsL (n-a.2.1) a.1 a.2.2).2.1 then (.exit 0,[(15,undef)],PH (h.set b (rdC tW (volsL (n-a.2.1) a.1 a.2.2).2.2)) (volsL (n-a.2.1) a.1 a.2.2).1 [])
    else (.ret,[(3,.bool false),(4,cptr (.agg ⟨[lst false (volR.vals (volsL (n-a.2.1) a.1 a.2.2).1),lst false (entR.vals [])]⟩)),(15,undef)],PR (h.set b (rdC tW (volsL (n-a.2.1) a.1 a.2.2).2.2)) (volsL (n-a.2.1) a.1 a.2.2).1 []))
   (fun a=>a.1.1.length≤100000∧a.2.1≤n∧a.2.2.length=a.2.1) (fun a=>n-a.2.1) ⟨by simp only;omega,Nat.zero_le _,rfl⟩]
  ·rw [Nat.sub_zero]
   have hvl:=volsL_len n s1 []
   generalize volsL n s1 []=V at *
   obtain ⟨vs,ok,s2⟩:=V
   simp only at hvl ⊢
   cases ok with
   | false =>
    simp -implicitDefEqProofs [k86_6,ge,pe,-Int.natCast_add]
   | true =>
    have h2:(PH (h.set b (rdC tW s2)) vs [])[b]?=some (rdC tW s2):=by rw [PH_get (by rw [eg];exact hb)];exact rd_get s2 hb
    have n2:=num_spec (lo:=lo) h2 hlo (by omega)
    rw [PH_set (by rw [eg];exact hb),List.set_set] at n2
    have hge2:=Dw.numS_ge (e:=59) (least:=0) (s:=s2) (Int.le_refl _)
    have hle2:=numS_len (e:=59) (least:=0) s2
    simp only [if_true]
    generalize numS 59 0 s2=a at *
    obtain ⟨z,s4⟩:=a
    obtain ⟨m,rfl⟩:∃ n:Nat,z=n:=⟨z.toNat,(Int.toNat_of_nonneg hge2).symm⟩
    simp only [Int.toNat_natCast] at *
    by_cases q2:(30:Int)<m
    ·rw [if_pos q2]
     simp -implicitDefEqProofs [k86_6,n2,q2,prep_frz,fz,pu,ge,pe,-Int.natCast_add]
    ·rw [if_neg q2]
     have hm30:m≤30:=by omega
     simp -implicitDefEqProofs [k86_6,n2,q2,-Int.natCast_add]
     rw [LL_rec (α:=RS × Nat × List Ent) (s4,0,[]) (fun a=>[(79,.int .i64 (a.2.1:Int))]) (fun a=>PH (h.set b (rdC tW a.1)) vs a.2.2)
      (fun a=>(.exit 2,[(79,undef)],PH (h.set b (rdC tW (givesL (m-a.2.1) a.1 a.2.2).2)) vs (givesL (m-a.2.1) a.1 a.2.2).1))
      (fun a=>a.1.1.length≤100000∧a.2.1≤m∧a.2.2.length=a.2.1) (fun a=>m-a.2.1) ⟨by simp only;omega,Nat.zero_le _,rfl⟩]
     ·rw [Nat.sub_zero]
      generalize givesL m s4 []=W at *
      simp -implicitDefEqProofs [k86_17,prep_frz,fz,pu,ge,pe,-Int.natCast_add]
     ·simp -implicitDefEqProofs [k86_17]
     ·rfl
     ·rintro nx ⟨s5,j,es⟩ ⟨hj1,hj2,hj3⟩ ih
      simp only at hj1 hj2 hj3
      by_cases hj:j<m
      ·have hjj:((j:Nat):Int)<(m:Int):=by omega
       have h5:(PH (h.set b (rdC tW s5)) vs es)[b]?=some (rdC tW s5):=by rw [PH_get (by rw [eg];exact hb)];exact rd_get s5 hb
       have tx:=text_spec (lo:=lo) h5 hlo (by omega)
       rw [PH_set (by rw [eg];exact hb),List.set_set] at tx
       have htl:=textS_len s5
       have eR:givesL (m-j) s5 es=givesL (m-(j+1)) (numS 59 0 (textS s5).2).2 (es++[((textS s5).1,(numS 59 0 (textS s5).2).1)]):=by
        rw [show m-j=(m-(j+1))+1 by omega];rfl
       rw [eR]
       generalize textS s5=u at *
       obtain ⟨t,s6⟩:=u
       simp only at *
       have h6:(PH (h.set b (rdC tW s6)) vs es)[b]?=some (rdC tW s6):=by rw [PH_get (by rw [eg];exact hb)];exact rd_get s6 hb
       have nm:=num_spec (lo:=lo) h6 hlo (by omega)
       rw [PH_set (by rw [eg];exact hb),List.set_set] at nm
       have hnl:=numS_len (e:=59) (least:=0) s6
       generalize numS 59 0 s6=u at *
       obtain ⟨z,s7⟩:=u
       simp only at *
       have dE:=PH_ldE (g:=h.set b (rdC tW s6)) (v:=vs) (e:=es) (X:=[]) (sz:=some 1)
       have li:=fun h=>lit_ent h (t,z)
       have bE:buildT (.fs ⟨[.string ⟨⟨[]⟩⟩,.int .i64 0]⟩ ⟨[(0,1),(1,1)]⟩) #[(0,.string ⟨⟨t⟩⟩),(1,.int .i64 z)]=some (.agg ⟨entR.enc (t,z)⟩):=bldE
       have ap:=PH_appE (g:=h.set b (rdC tW s7)) (v:=vs) (e:=es) (lo:=lo) (X:=[]) (t,z) (by rw [eg];omega) (by omega)
       have sE:=PH_stE (g:=h.set b (rdC tW s7)) (v:=vs) (e:=es) (lo:=lo) (X:=[]) (e':=es++[(t,z)]) (by rw [eg];omega)
       rw [eg] at dE ap sE
       simp only [List.append_nil] at dE ap sE
       have lenP:∀ s v e,(PH (h.set b (rdC tW s)) v e).length=h.length+4:=fun s v e=>by rw [PH_len,eg]
       have w1:IntKind.i64.wrap ((j:Int)+1)=((j+1:Nat):Int):=wrap64 (by omega) (by omega)
       have ih:=ih (s7,j+1,es++[(t,z)]) (by simp only;omega) ⟨by simp only;omega,by simp only;omega,by simp [hj3]⟩
       generalize givesL (m-(j+1)) s7 (es++[(t,z)])=q at *
       simp -implicitDefEqProofs [k86_17,-Int.natCast_add] at ih
       have gP:∀ s,(PH (h.set b (rdC tW s)) vs es)[h.length+1]?=some (phC h.length vs es):=fun s=>by
        have:=PH_cell (g:=h.set b (rdC tW s)) (v:=vs) (e:=es)
        rwa [eg] at this
       have cB:∀ σ,slot σ 4=.pointer (some ⟨h.length+1,0,none⟩)→calmB 4 σ (PH (h.set b (rdC tW s6)) vs es)=some (h.length+1,h.length+4):=fun σ hσ=>by
        have:=calmB_ptr (h:=PH (h.set b (rdC tW s6)) vs es) hσ (by rw [lenP];omega)
        rwa [lenP] at this
       have cR:∀ (k:TI) (a:Operand) (ρ:Operand→Value),ρ a=.pointer (some ⟨h.length+1,1,none⟩)→calmR (h.length+1,h.length+4) (PH (h.set b (rdC tW s6)) vs es) (.load k a) ρ=true:=fun k a ρ ha=>calmR_load ha rfl (gP s6) phC_bel
       simp -implicitDefEqProofs [r86_17,k86_17,hjj,tx,prep_still,prep_calm,dE,nm,bE,li,ap,sE,lenP,trim_le,w1,cB,cR,gP,phC_same,nextQ_race,-getElem?_pos,-Int.natCast_add]
       exact ih
      ·have e0:m-j=0:=by omega
       have hjj:¬ ((j:Nat):Int)<(m:Int):=by omega
       rw [e0]
       simp -implicitDefEqProofs [r86_17,k86_17,hjj,givesL,trim_le,-Int.natCast_add]
  ·simp -implicitDefEqProofs [k86_6]
  ·rfl
  ·rintro nx ⟨s2,i,out⟩ ⟨hi1,hi2,hi3⟩ ih
   simp only at hi1 hi2 hi3
   have gb:(h.set b (rdC tW s2)).all (belowO (h.set b (rdC tW s2)).length)=true:=by rw [eg];exact rd_all _ hbl
   have h2:(PH (h.set b (rdC tW s2)) out [])[b]?=some (rdC tW s2):=by rw [PH_get (by rw [eg];exact hb)];exact rd_get s2 hb
   by_cases hi:i<n
   ·have hii:((i:Nat):Int)<(n:Int):=by omega
    have ns:=nums_spec (lo:=lo) h2 hlo hi1 (PH_all gb)
    rw [PH_set (by rw [eg];exact hb),List.set_set] at ns
    have hok:=numsS_ok s2
    have hlen:=numsS_len s2
    have eR:volsL (n-i) s2 out=if okNums (numsS s2).1 then volsL (n-(i+1)) (numsS s2).2 (out++[volOf (numsS s2).1]) else (out,false,(numsS s2).2):=by
     rw [show n-i=(n-(i+1))+1 by omega];rfl
    rw [eR]
    simp only at ih
    generalize numsS s2=a at *
    obtain ⟨l,s3⟩:=a
    simp only at *
    have ll:∀ h,lenT .sl h (intE.o (kd s3.2) l)=some (.int .i64 l.length):=fun h=>Enc.o_len (h:=h) hok
    have lenP:∀ s v e,(PH (h.set b (rdC tW s)) v e).length=h.length+4:=fun s v e=>by rw [PH_len,eg]
    have lenR:∀ s v e,(PR (h.set b (rdC tW s)) v e).length=h.length+4:=fun s v e=>by rw [PR_len,eg]
    have w1:IntKind.i64.wrap ((i:Int)+1)=((i+1:Nat):Int):=wrap64 (by omega) (by omega)
    by_cases h9:l.length=9
    ·match l,h9 with
     | [a0,a1,a2,a3,a4,a5,a6,a7,a8],_ =>
      have hk:kd s3.2=some false:=by
       cases hq:s3.2 with
       | false=>rfl
       | true =>
        rw [hq] at hok
        exact absurd (hok rfl) (by simp)
      rw [hk] at ns ll
      have eok:okNums [a0,a1,a2,a3,a4,a5,a6,a7,a8]=(decide (a8=0) || decide (a8=1)):=rfl
      have evol:volOf [a0,a1,a2,a3,a4,a5,a6,a7,a8]=⟨a0,a1,a2,a3,a4,a5,a6,a7,decide (a8=1)⟩:=rfl
      rw [eok,evol]
      by_cases hgood:a8=0∨a8=1
      ·have hg2:(decide (a8=0) || decide (a8=1))=true:=by simpa using hgood
       rw [if_pos hg2]
       have s7:=snoc_put (g:=PH (h.set b (rdC tW s3)) out []) (lo:=lo) (t:=56) (n:=4) (c:=[.int .i64 0,.int .i64 0,.int .i64 0,.int .i64 0]) (d:=[.int .i64 a0,.int .i64 a1,.int .i64 a2,.int .i64 a3]) rfl rfl (by decide) (by rw [lenP];omega)
       have d7:=snoc_all (g:=PH (h.set b (rdC tW s3)) out []) (t:=56) (n:=4) (c:=[.int .i64 a0,.int .i64 a1,.int .i64 a2,.int .i64 a3]) rfl
       rw [lenP] at s7 d7
       have dV:=PH_ldV (g:=h.set b (rdC tW s3)) (v:=out) (e:=[]) (X:=[.cells 56 [.int .i64 a0,.int .i64 a1,.int .i64 a2,.int .i64 a3] 0]) (sz:=some 1)
       have li:=fun h=>lit_vol h ⟨a0,a1,a2,a3,a4,a5,a6,a7,decide (a8=1)⟩
       have ap:=PH_appV (g:=h.set b (rdC tW s3)) (v:=out) (e:=[]) (lo:=lo) (X:=[.cells 56 [.int .i64 a0,.int .i64 a1,.int .i64 a2,.int .i64 a3] 0]) ⟨a0,a1,a2,a3,a4,a5,a6,a7,decide (a8=1)⟩ (by rw [eg];omega) (by omega)
       have sV:=PH_stV (g:=h.set b (rdC tW s3)) (v:=out) (e:=[]) (lo:=lo) (X:=[.cells 56 [.int .i64 a0,.int .i64 a1,.int .i64 a2,.int .i64 a3] 0]) (v':=out++[⟨a0,a1,a2,a3,a4,a5,a6,a7,decide (a8=1)⟩]) (by rw [eg];omega)
       have gb3:(h.set b (rdC tW s3)).all (belowO (h.set b (rdC tW s3)).length)=true:=by rw [eg];exact rd_all _ hbl
       have tr:=fun σ hσ=>PH_trim (g:=h.set b (rdC tW s3)) (v:=out++[⟨a0,a1,a2,a3,a4,a5,a6,a7,decide (a8=1)⟩]) (e:=[]) (X:=[.cells 56 [.int .i64 a0,.int .i64 a1,.int .i64 a2,.int .i64 a3] 0]) (σ:=σ) (n:=h.length+4) (by rw [eg]) (by simp) gb3 hσ
       rw [eg] at dV ap sV tr
       have pb:=bel_n (h.length+4) b (by omega)
       have p0:=bel_n (h.length+4) h.length (by omega)
       have p1:=bel_n (h.length+4) (h.length+1) (by omega)
       have ih:=ih (s3,i+1,out++[⟨a0,a1,a2,a3,a4,a5,a6,a7,decide (a8=1)⟩]) (by simp only;omega) ⟨by simp only;omega,by simp only;omega,by simp [hi3]⟩
       generalize volsL (n-(i+1)) s3 (out++[⟨a0,a1,a2,a3,a4,a5,a6,a7,decide (a8=1)⟩])=q at *
       generalize hV:(⟨a0,a1,a2,a3,a4,a5,a6,a7,decide (a8=1)⟩:Vol)=vv at *
       simp -implicitDefEqProofs [k86_6,-Int.natCast_add] at ih
       rcases hgood with rfl | rfl
       ·rw [show decide ((0:Int)=1)=false from rfl] at hV
        simp -implicitDefEqProofs [r86_6,k86_6,hii,ns,nine_len,nine0,nine1,nine2,nine3,nine4,nine5,nine6,nine7,nine8,bld4,bld6,bld9,lenP,s7,d7,dV,li,ap,sV,tr,pb,p0,p1,w1,hV,-Int.natCast_add,-List.append_assoc]
        exact ih
       ·rw [show decide ((1:Int)=1)=true from rfl] at hV
        simp -implicitDefEqProofs [r86_6,k86_6,hii,ns,nine_len,nine0,nine1,nine2,nine3,nine4,nine5,nine6,nine7,nine8,bld4,bld6,bld9,lenP,s7,d7,dV,li,ap,sV,tr,pb,p0,p1,w1,hV,-Int.natCast_add,-List.append_assoc]
        exact ih
      ·have g0:¬ a8=0:=fun q=>hgood (.inl q)
       have g1:¬ a8=1:=fun q=>hgood (.inr q)
       have hg2:¬ ((decide (a8=0) || decide (a8=1))=true):=by simp [g0,g1]
       rw [if_neg hg2,if_neg (by simp)]
       simp -implicitDefEqProofs [r86_6,k86_6,hii,ns,nine_len,nine8,g0,g1,prep_frz,fz,pu,lenP,lenR,trim_le,-Int.natCast_add]
    ·have h9':¬ (l.length:Int)=9:=by omega
     have eok:okNums l=false:=by unfold okNums;simp [h9]
     rw [eok,if_neg (by simp),if_neg (by simp)]
     simp -implicitDefEqProofs [r86_6,k86_6,hii,ns,ll,h9',prep_frz,fz,pu,lenP,lenR,trim_le,-Int.natCast_add]
   ·have e0:n-i=0:=by omega
    have hii:¬ ((i:Nat):Int)<(n:Int):=by omega
    rw [e0]
    simp -implicitDefEqProofs [r86_6,k86_6,hii,volsL,trim_le,-Int.natCast_add]
theorem phase_spec {h:Heap} {b lo:Nat} {s:RS} (hob:h[b]?=some (rdC tW s)) (hlo:lo≤b) (hl:s.1.length≤100000) (hbl:h.all (belowO h.length)=true) :
  retCall E (L E) lo false 86 [rdP b] h=some (.tuple ⟨[.agg ⟨phR.enc (phaseS s).1⟩,.bool (phaseS s).2.1]⟩,h.set b (rdC tW (phaseS s).2.2)):=by
 have e:(h.set b (rdC tW (phaseS s).2.2)).length=h.length:=List.length_set
 rw [ret3t m86,phase_key hob hlo hl hbl,Option.map_some]
 unfold PR
 rw [trim_cut (by rw [List.length_append,e];simp) rfl (by rw [List.take_left' e];exact rd_all _ hbl),List.take_left' e]
end Go.Proofs.YtplebjehcgcdeaaGreatDoor.Bm
namespace Go.Proofs.YtplebjehcgcdeaaGreatDoor.Bm
open Go Go.RowKit
open Dw (letB digB ldB wordB nameB resW blanks)
theorem letter_pure (c:UInt8):pureCall E.P (L E) 174 [.int .u8 c.toNat]=some (.bool (letB c)):=by
 rw [pureCall_fn F174 rfl]
 unfold letB
 have e1:((97:Int)≤(c.toNat:Int))↔97≤c.toNat:=by omega
 have e2:((c.toNat:Int)≤122)↔c.toNat≤122:=by omega
 by_cases h:97≤c.toNat
 ·have h':=e1.2 h
  simp -implicitDefEqProofs [r174,padS,h,h',e2]
 ·have h':¬ ((97:Int)≤(c.toNat:Int)):=fun q=>h (e1.1 q)
  simp -implicitDefEqProofs [r174,padS,h,h']
theorem digit_pure (c:UInt8):pureCall E.P (L E) 177 [.int .u8 c.toNat]=some (.bool (digB c)):=by
 rw [pureCall_fn F177 rfl]
 unfold digB
 have e1:((48:Int)≤(c.toNat:Int))↔48≤c.toNat:=by omega
 have e2:((c.toNat:Int)≤57)↔c.toNat≤57:=by omega
 by_cases h:48≤c.toNat
 ·have h':=e1.2 h
  simp -implicitDefEqProofs [r177,padS,h,h',e2]
 ·have h':¬ ((48:Int)≤(c.toNat:Int)):=fun q=>h (e1.1 q)
  simp -implicitDefEqProofs [r177,padS,h,h']
theorem ld_pure (c:UInt8):pureCall E.P (L E) 176 [.int .u8 c.toNat]=some (.bool (ldB c)):=by
 have h1:=letter_pure c
 have h2:=digit_pure c
 rw [pureCall_fn F176 rfl]
 unfold ldB
 cases h:letB c with
 | true=>simp -implicitDefEqProofs [r176,padS,ret0 m174,h1,h]
 | false=>simp -implicitDefEqProofs [r176,padS,ret0 m174,ret0 m177,h1,h2,h]
def spanN:List UInt8→Nat
 | []=>0
 | c :: r=>if ldB c then spanN r+1 else 0
theorem spanN_all:∀ {l:List UInt8},spanN l≤l.length∧(spanN l=l.length↔l.all ldB=true)
 | []=>by simp [spanN]
 | c :: r=>by
  have ih:=spanN_all (l:=r)
  unfold spanN
  rw [List.all_cons]
  cases h:ldB c with
  | true =>
   rw [if_pos rfl,Bool.true_and,List.length_cons]
   exact ⟨by omega,by rw [← ih.2];omega⟩
  | false =>
   rw [if_neg (by simp),Bool.false_and,List.length_cons]
   exact ⟨by omega,⟨fun q=>by omega,fun q=>by cases q⟩⟩
theorem span_pure (l:List UInt8) (hl:l.length≤1000000):pureCall E.P (L E) 175 [.string ⟨⟨l⟩⟩,.func (.func 176) #[] #[]]=some (.int .i64 (spanN l)):=by
 rw [pureCall_fn F175 rfl]
 simp -implicitDefEqProofs [r175,padS]
 rw [LL_for (γ:=Unit) l () (fun i _=>[(5,.int .i64 (i:Int))]) (fun _ _=>[]) (fun i rest _=>(.exit 0,[(5,.int .i64 ((i+spanN rest:Nat):Int))],[])) (fun _ _=>True) (by omega) trivial]
 ·simp -implicitDefEqProofs [k175_2]
 ·simp -implicitDefEqProofs [k175_2]
 ·rfl
 ·intro nx i c hi _
  simp -implicitDefEqProofs [r175_2,k175_2,hi,str_size,trim_le,spanN]
 ·intro nx i c rest u hi hv hd hw _ ih
  have ih:=ih () trivial
  have ci:=ld_pure c
  have ix:=sv_idx (k:=.i64) hi
  rw [hv] at ix
  have hii:((i:Nat):Int)<(l.length:Int):=by omega
  unfold spanN
  simp -implicitDefEqProofs [k175_2] at ih
  cases h:ldB c with
  | true =>
   have e:i+(spanN rest+1)=i+1+spanN rest:=by omega
   rw [if_pos rfl,e]
   simp -implicitDefEqProofs [r175_2,k175_2,hii,str_size,ix,ret0 m176,ci,h,hw,trim_le]
   exact ih
  | false =>
   simp -implicitDefEqProofs [r175_2,k175_2,hii,str_size,ix,ret0 m176,ci,h,trim_le]
theorem word_pure (l:List UInt8) (hl:l.length≤1000000):pureCall E.P (L E) 132 [.string ⟨⟨l⟩⟩]=some (.bool (wordB l)):=by
 rw [pureCall_fn F132 rfl]
 cases l with
 | nil=>simp -implicitDefEqProofs [r132,p132,wordB]
 | cons c r =>
  have lc:=letter_pure c
  have sp:=span_pure (c :: r) hl
  have hs:=spanN_all (l:=c :: r)
  unfold wordB
  simp only
  have e1:(((c :: r).length:Int) > 20)↔20<(c :: r).length:=by omega
  cases h:letB c with
  | false=>simp -implicitDefEqProofs [r132,p132,sv_head,ret0 m174,lc,h]
  | true =>
   by_cases h2:(c :: r).length≤20
   ·have h2':¬ ((20:Int)<(((c :: r).length:Nat):Int)):=by omega
    have e3:(((spanN (c :: r):Nat):Int)=(((c :: r).length:Nat):Int))↔(c :: r).all ldB=true:=by rw [← hs.2];omega
    rw [decide_eq_true h2,Bool.and_true,Bool.true_and]
    generalize hL:c :: r=l at *
    have ix:indexT .str (.string ⟨⟨l⟩⟩) (.int .i64 0)=some (.int .u8 c.toNat):=by rw [← hL];exact sv_head
    have hne:¬ l=[]:=by rw [← hL];simp
    cases h4:l.all ldB with
    | true =>
     rw [h4] at e3
     have e4:=e3.2 rfl
     simp -implicitDefEqProofs [r132,p132,str_size,ix,hne,ret0 m174,lc,h,h2',ret0 m175,sp,e4]
    | false =>
     rw [h4] at e3
     have e4:¬ ((spanN l:Nat):Int)=((l.length:Nat):Int):=fun q=>by have:=e3.1 q;cases this
     simp -implicitDefEqProofs [r132,p132,str_size,ix,hne,ret0 m174,lc,h,h2',ret0 m175,sp,e4]
   ·have h2':((20:Int)<(((c :: r).length:Nat):Int)):=by omega
    rw [decide_eq_false h2]
    generalize hL:c :: r=l at *
    have ix:indexT .str (.string ⟨⟨l⟩⟩) (.int .i64 0)=some (.int .u8 c.toNat):=by rw [← hL];exact sv_head
    have hne:¬ l=[]:=by rw [← hL];simp
    simp -implicitDefEqProofs [r132,p132,str_size,ix,hne,ret0 m174,lc,h,h2']
theorem mCo:E.mode 133=0:=by kernel_rfl
theorem con_pure (a b:List UInt8) (ha:a.length≤1000000):pureCall E.P (L E) 133 [.string ⟨⟨a⟩⟩,.string ⟨⟨b⟩⟩]=some (.bool (Lib.contains a b)):=by
 unfold pureCall
 rw [L_orc (g:=scaG contF) rfl]
 have e1:contF [.string ⟨⟨a⟩⟩,.string ⟨⟨b⟩⟩]=some (.bool (Lib.contains a b)):=by
  show (if ByteArray.size ⟨⟨a⟩⟩<4294967281 then _ else none)=_
  rw [if_pos (by rw [str_size];omega)]
 show ((contF [.string ⟨⟨a⟩⟩,.string ⟨⟨b⟩⟩]).map (·,_)).bind _=_
 rw [e1];rfl
theorem res_text:blanks resW=[32,97,110,100,32,97,112,97,114,116,32,98,97,115,101,32,99,97,112,32,100,101,102,105,110,101,32,101,108,115,101,32,101,120,99,101,112,116,32,102,114,111,109,32,103,114,97,99,101,32,104,111,117,114,115,32,105,102,32,105,110,32,108,101,97,115,116,32,110,111,116,32,111,114,32,111,118,101,114,108,97,121,32,112,108,97,110,101,32,114,117,108,101,32,115,108,111,112,101,32,115,117,110,32,116,97,98,108,101,32,116,104,101,110,32,117,110,116,105,108,32,117,115,101,115,32,118,97,114,121,32,118,105,101,119,32,122,111,110,101,32]:=by kernel_rfl
theorem name_pure (l:List UInt8) (hl:l.length≤1000000):pureCall E.P (L E) 67 [.string ⟨⟨l⟩⟩]=some (.bool (nameB l)):=by
 rw [pureCall_fn F67 rfl]
 have hw:=word_pure l hl
 unfold nameB
 cases h:wordB l with
 | false=>simp -implicitDefEqProofs [r67,p67,ret0 m132,hw,h]
 | true =>
  have co:=con_pure (blanks resW) (32 :: (l++[32])) (of_decide_eq_true (by kernel_rfl))
  rw [show (32:UInt8) :: (l++[32])=32 :: l++[32] from rfl,Dw.cont_res h] at co
  rw [res_text] at co
  have a1:=sv_add (P:=E.P) (t:=9) (a:=[32]) (b:=l) (by simp;omega)
  have a2:=sv_add (P:=E.P) (t:=9) (a:=32 :: l) (b:=[32]) (by simp;omega)
  simp only [List.cons_append,List.nil_append] at a1 a2 co
  simp -implicitDefEqProofs [r67,p67,ret0 m132,hw,h,a1,a2,ret0 mCo,co]
end Go.Proofs.YtplebjehcgcdeaaGreatDoor.Bm
namespace Go.Proofs.YtplebjehcgcdeaaGreatDoor.Bm
open Go Go.RowKit
open Dw (Vol Ent Phs Drw)
def vfrom:Nat→Int→Int→List Phs→List Vol
 | _,_,_,[]=>[]
 | i,f,t,p :: r=>(if f≤i∧(i:Int)<t then p.vols else [])++vfrom (i+1) f t r
theorem vfrom_all:∀ (l:List Phs) (i:Nat) (t:Int),(i:Int)+l.length≤t→vfrom i 0 t l=l.flatMap Phs.vols
 | [],_,_,_=>rfl
 | p :: r,i,t,h=>by
  rw [List.length_cons] at h
  unfold vfrom
  rw [if_pos ⟨by omega,by omega⟩,vfrom_all r (i+1) t (by omega)];rfl
abbrev elV:El:=⟨tV,9,72,.agg ⟨[.int .i64 0,.int .i64 0,.int .i64 0,.int .i64 0,.int .i64 0,.int .i64 0,.int .i64 0,.int .i64 0,.bool false]⟩,⟨some true,some 9⟩⟩
theorem app_vs {h:Heap} {b lo:Nat} {c m:List Vol} (hob:h[b]?=some (volR.row tV c)) (hlo:lo≤b) (hc:c.length+m.length≤1000000) :
  appendT (some elV) h lo false (volR.sl b c) (lst false (volR.vals m))=some (volR.sl b (c++m),h.set b (volR.row tV (c++m))) :=
 Rec.app (R:=volR) (m:=m) rfl hob (Rec.cells_tree (R:=volR) rfl m) hlo (by show (c.length+m.length) * 72≤2 ^ 47;omega)
theorem ph_val {p:Phs}:phR.val p=.agg ⟨[lst false (volR.vals p.vols),lst false (entR.vals p.gives)]⟩:=rfl
theorem vols_spec (k:Option Bool) (d:Drw) (f t:Int) (hk:Rec.Ok k d.phs) (hp:d.phs.length≤1000000) (hv:d.all.length≤1000000) :
  pureCall E.P (L E) 26 [drV k d,.int .i64 f,.int .i64 t]=some (lst false (volR.vals (vfrom 0 f t d.phs))):=by
 obtain ⟨lot,phs⟩:=d
 unfold Dw.Drw.all at hv
 simp only at hk hp hv
 have ll:∀ h,lenT .sl h (phR.o k phs)=some (.int .i64 phs.length):=fun h=>Rec.o_len hk
 have ix:=fun (i:Nat) (hi:i<phs.length)=>Rec.o_index (R:=phR) (s:=2) (t:=tP) (kk:=.i64) rfl hk hi
 have sn:szOf E.P tV=some (8+1):=sVol
 have esl:Value.slice (some ⟨1,0,some 0⟩) 0 0=volR.sl 1 []:=rfl
 have erow:AObj.cells tV [] (8+1)=volR.row tV []:=rfl
 have ld:∀ X,loadT ⟨some false,some 1⟩ (AObj.cells tD [.int .i64 lot,phR.o k phs] 0 :: X) (.pointer (some ⟨0,1,none⟩))=some (phR.o k phs):=fun X=>obj_load (j:=1) (t:=tD) (c:=[.int .i64 lot,phR.o k phs]) rfl rfl
 rw [pureCall_fn F26 rfl]
 unfold drV
 simp only
 have bP:∀ d n,below (d+1) n (phR.o k phs)=true:=fun d n=>Rec.o_bel
 generalize phR.o k phs=VP at *
 simp -implicitDefEqProofs [r26,p26,prep_new,newK_nil sn,esl,erow,ld,ll]
 rw [LL_for (γ:=List Vol) phs [] (fun i c=>[(7,volR.sl 1 c),(13,.int .i64 (i:Int))]) (fun _ c=>[.cells tD [.int .i64 lot,VP] 0,volR.row tV c]) (fun i rest c=>(.exit 0,[(7,volR.sl 1 (c++vfrom i f t rest)),(13,undef)],[.cells tD [.int .i64 lot,VP] 0,volR.row tV (c++vfrom i f t rest)]))
  (fun i c=>c.length+((phs.drop i).flatMap Phs.vols).length≤1000000) (by omega) (by simpa using hv)]
 ·have rr:=Rec.reifyR_row (R:=volR) (P:=E.P) (h:=[.cells tD [.int .i64 lot,VP] 0,volR.row tV ([]++vfrom 0 f t phs)]) (b:=1) rfl sVol aVol
  rw [List.nil_append] at rr ⊢
  generalize vfrom 0 f t phs=out at *
  simp -implicitDefEqProofs [k26_3,rr]
 ·simp -implicitDefEqProofs [k26_3]
 ·rfl
 ·intro nx i c hi _
  simp -implicitDefEqProofs [r26_3,k26_3,hi,trim_le,vfrom]
 ·intro nx i p rest c hi hv2 hd hw hinv ih
  rw [hd,List.flatMap_cons,List.length_append] at hinv
  have hd2:phs.drop (i+1)=rest:=by
   have:=congrArg List.tail hd
   simpa [List.tail_drop] using this
  have xi:=ix i hi
  rw [hv2,ph_val] at xi
  have pV:∀ X,fitsTT ⟨some true,some 2⟩ (.agg ⟨[lst false (volR.vals p.vols),X]⟩)=true:=fun X=>rfl
  have s2:∀ (A B:AObj) (u v:Value),storeT (some 2) [A,B,.cells tP [.slice none 0 0,.slice none 0 0] 0] 0 (.agg ⟨[u,v]⟩) (.pointer (some ⟨2,0,none⟩))=some [A,B,.cells tP [u,v] 0]:=fun A B u v=>snoc_put (g:=[A,B]) (lo:=0) (t:=tP) (n:=2) (c:=[.slice none 0 0,.slice none 0 0]) (d:=[u,v]) rfl rfl (by decide) (Nat.zero_le _)
  have d2:∀ (A B:AObj) (u v:Value),loadT ⟨some false,some 1⟩ [A,B,.cells tP [u,v] 0] (.pointer (some ⟨2,0,none⟩))=some u:=fun A B u v=>obj_load (j:=0) (t:=tP) (c:=[u,v]) rfl rfl
  have ap:=fun (A C:AObj)=>app_vs (h:=[A,volR.row tV c,C]) (b:=1) (lo:=0) (c:=c) (m:=p.vols) rfl (Nat.zero_le _) (by omega)
  have hlen:(p.vols.length:Nat)≤1000000:=by omega
  have bl:∀ n,belowO n (.cells tD [.int .i64 lot,VP] 0)=true:=fun n=>by show ([_,_]:List Value).all (below 8 n)=true;simp only [List.all_cons,List.all_nil,bP,bel_int,Bool.and_self]
  have bD:∀ n,below 8 n (.agg ⟨[.int .i64 lot,VP]⟩)=true:=fun n=>by show ([_,_]:List Value).all (below 7 n)=true;simp only [List.all_cons,List.all_nil,bP,bel_int,Bool.and_self]
  unfold vfrom
  by_cases q1:f≤(i:Int)
  ·by_cases q2:(i:Int)<t
   ·rw [if_pos ⟨q1,q2⟩,← List.append_assoc]
    have ih:=ih (c++p.vols) (by rw [hd2,List.length_append];omega)
    simp -implicitDefEqProofs [k26_3,-List.append_assoc] at ih
    simp -implicitDefEqProofs [r26_3,k26_3,hi,xi,pV,s2,d2,q1,q2,ap,hw,trim_cut,Rec.sl_bel,Rec.row_bel,bl,bD,bP,-List.all_eq_true,-List.append_assoc]
    exact ih
   ·rw [if_neg (fun q=>q2 q.2),List.nil_append]
    have ih:=ih c (by rw [hd2];omega)
    simp -implicitDefEqProofs [k26_3,-List.append_assoc] at ih
    simp -implicitDefEqProofs [r26_3,k26_3,hi,xi,pV,s2,q1,q2,hw,trim_cut,Rec.sl_bel,Rec.row_bel,bl,bD,bP,-List.all_eq_true,-List.append_assoc]
    exact ih
  ·rw [if_neg (fun q=>q1 q.1),List.nil_append]
   have ih:=ih c (by rw [hd2];omega)
   simp -implicitDefEqProofs [k26_3,-List.append_assoc] at ih
   simp -implicitDefEqProofs [r26_3,k26_3,hi,xi,pV,s2,q1,hw,trim_cut,Rec.sl_bel,Rec.row_bel,bl,bD,bP,-List.all_eq_true,-List.append_assoc]
   exact ih
end Go.Proofs.YtplebjehcgcdeaaGreatDoor.Bm
namespace Go.Proofs.YtplebjehcgcdeaaGreatDoor.Bm
open Go Go.RowKit
open Dw (Vol Ent Phs Drw rightRB rightV meetV)
theorem all_spec (k:Option Bool) (d:Drw) (hk:Rec.Ok k d.phs) (hp:d.phs.length≤1000000) (hv:d.all.length≤1000000) :
  pureCall E.P (L E) 59 [drV k d]=some (lst false (volR.vals d.all)):=by
 have vs:=vols_spec k d 0 d.phs.length hk hp hv
 rw [vfrom_all _ _ _ (by omega)] at vs
 have hs:settled 8 (drV k d)=true:=by
  show ([_,_]:List Value).all (settled 7)=true
  simp only [List.all_cons,List.all_nil,Bool.and_true,Bool.and_eq_true]
  exact ⟨rfl,Rec.o_set⟩
 have ll:∀ h,lenT .sl h (phR.o k d.phs)=some (.int .i64 d.phs.length):=fun h=>Rec.o_len hk
 have ld:∀ X,loadT ⟨some false,some 1⟩ (AObj.cells tD [.int .i64 d.lot,phR.o k d.phs] 0 :: X) (.pointer (some ⟨0,1,none⟩))=some (phR.o k d.phs):=fun X=>obj_load (j:=1) (t:=tD) (c:=[.int .i64 d.lot,phR.o k d.phs]) rfl rfl
 have la:∀ X,loadT ⟨some true,some 2⟩ (AObj.cells tD [.int .i64 d.lot,phR.o k d.phs] 0 :: X) (.pointer (some ⟨0,0,none⟩))=some (.agg ⟨[.int .i64 d.lot,phR.o k d.phs]⟩):=fun X=>obj_all (n:=2) (t:=tD) (c:=[.int .i64 d.lot,phR.o k d.phs]) rfl rfl
 rw [pureCall_fn F59 rfl]
 unfold Dw.Drw.all
 unfold drV at *
 generalize phR.o k d.phs=VP at *
 have rr:∀ h,reifyR E.P h (lst false (volR.vals (d.phs.flatMap Phs.vols)))=some (lst false (volR.vals (d.phs.flatMap Phs.vols))):=fun h=>rfl
 generalize lst false (volR.vals (d.phs.flatMap Phs.vols))=VR at *
 simp -implicitDefEqProofs [r59,padS,ld,la,ll,ret1s m26,hs,vs,rr]
theorem right_pure (a b c d:Int):pureCall E.P (L E) 78 [.agg ⟨[.int .i64 a,.int .i64 b,.int .i64 c,.int .i64 d]⟩]=some (.bool (rightRB a b c d)):=by
 rw [pureCall_fn F78 rfl]
 unfold rightRB
 by_cases h1:0≤a
 ·by_cases h2:a<c
  ·by_cases h3:c≤1048576
   ·by_cases h4:0≤b
    ·by_cases h5:b<d
     ·simp -implicitDefEqProofs [r78,p78,h1,h2,h3,h4,h5]
     ·simp -implicitDefEqProofs [r78,p78,h1,h2,h3,h4,h5]
    ·simp -implicitDefEqProofs [r78,p78,h1,h2,h3,h4]
   ·simp -implicitDefEqProofs [r78,p78,h1,h2,h3]
  ·simp -implicitDefEqProofs [r78,p78,h1,h2]
 ·simp -implicitDefEqProofs [r78,p78,h1]
theorem rightV_pure (v:Vol):pureCall E.P (L E) 28 [.agg ⟨volR.enc v⟩]=some (.bool (rightV v)):=by
 obtain ⟨a,b,c,d,e,f,g,u,x⟩:=v
 have hr:=right_pure a b c d
 rw [pureCall_fn F28 rfl]
 unfold rightV
 show (retK _ (evR E (L E) LL 0 _ (padS [.agg ⟨[.int .i64 a,.int .i64 b,.int .i64 c,.int .i64 d,.int .i64 e,.int .i64 f,.int .i64 g,.int .i64 u,.bool x]⟩] _) [])).bind _=_
 simp only
 cases h0:rightRB a b c d with
 | false=>simp -implicitDefEqProofs [r28,p28,ret0 m78,hr,h0]
 | true =>
  by_cases h1:0≤e
  ·have h1':¬ e<0:=by omega
   by_cases h2:e<f
   ·have h2':¬ f≤e:=by omega
    by_cases h3:f≤4096
    ·have h3':¬ 4096<f:=by omega
     by_cases h4:g=0
     ·by_cases h7:0≤u
      ·simp -implicitDefEqProofs [r28,p28,ret0 m78,hr,h0,h1,h1',h2,h2',h3,h3',h4,h7]
      ·simp -implicitDefEqProofs [r28,p28,ret0 m78,hr,h0,h1,h1',h2,h2',h3,h3',h4,h7]
     ·by_cases h5:u=0
      ·by_cases h6:0≤g
       ·by_cases h8:g<6
        ·simp -implicitDefEqProofs [r28,p28,ret0 m78,hr,h0,h1,h1',h2,h2',h3,h3',h4,h5,h6,h8]
        ·simp -implicitDefEqProofs [r28,p28,ret0 m78,hr,h0,h1,h1',h2,h2',h3,h3',h4,h5,h6,h8]
       ·simp -implicitDefEqProofs [r28,p28,ret0 m78,hr,h0,h1,h1',h2,h2',h3,h3',h4,h5,h6]
      ·simp -implicitDefEqProofs [r28,p28,ret0 m78,hr,h0,h1,h1',h2,h2',h3,h3',h4,h5]
    ·have h3':4096<f:=by omega
     simp -implicitDefEqProofs [r28,p28,ret0 m78,hr,h0,h1,h1',h2,h2',h3,h3']
   ·have h2':f≤e:=by omega
    simp -implicitDefEqProofs [r28,p28,ret0 m78,hr,h0,h1,h1',h2,h2']
  ·have h1':e<0:=by omega
   simp -implicitDefEqProofs [r28,p28,ret0 m78,hr,h0,h1,h1']
theorem bld0:buildT (.fs ⟨[.int .i64 0,.int .i64 0,.int .i64 0,.int .i64 0]⟩ ⟨[(0,1),(1,1),(2,1),(3,1)]⟩) #[]=some (.agg ⟨[.int .i64 0,.int .i64 0,.int .i64 0,.int .i64 0]⟩):=by kernel_rfl
theorem chk_pure (a b c d:Int):pureCall E.P (L E) 136 [.agg ⟨[.int .i64 a,.int .i64 b,.int .i64 c,.int .i64 d]⟩]=some (if rightRB a b c d then .tuple ⟨[.agg ⟨[.int .i64 a,.int .i64 b,.int .i64 c,.int .i64 d]⟩,.bool true]⟩ else .tuple ⟨[.agg ⟨[.int .i64 0,.int .i64 0,.int .i64 0,.int .i64 0]⟩,.bool false]⟩):=by
 have hr:=right_pure a b c d
 rw [pureCall_fn F136 rfl]
 cases h0:rightRB a b c d with
 | false=>simp -implicitDefEqProofs [r136,padS,ret0 m78,hr,h0,bld0]
 | true=>simp -implicitDefEqProofs [r136,padS,ret0 m78,hr,h0]
theorem mm_max (x y:Int):aMinMax true [.int .i64 x,.int .i64 y]=some (.int .i64 (max x y)):=by
 show some (Value.int .i64 (if y > x then y else x))=_
 rw [show (if y > x then y else x)=max x y by split <;> omega]
theorem mm_min (x y:Int):aMinMax false [.int .i64 x,.int .i64 y]=some (.int .i64 (min x y)):=by
 show some (Value.int .i64 (if y<x then y else x))=_
 rw [show (if y<x then y else x)=min x y by split <;> omega]
theorem inter_pure (a b c d p q u v:Int) (h1:rightRB a b c d=true) (h2:rightRB p q u v=true):∃ r,pureCall E.P (L E) 131 [.agg ⟨[.int .i64 a,.int .i64 b,.int .i64 c,.int .i64 d]⟩,.agg ⟨[.int .i64 p,.int .i64 q,.int .i64 u,.int .i64 v]⟩]=some (.tuple ⟨[.agg ⟨r⟩,.bool (decide (max a p<min c u) && decide (max b q<min d v))]⟩)∧r.length=4∧flat (.agg ⟨r⟩)=true:=by
 have r1:=right_pure a b c d
 have r2:=right_pure p q u v
 have ck:=chk_pure (max a p) (max b q) (min c u) (min d v)
 have hR:rightRB (max a p) (max b q) (min c u) (min d v)=(decide (max a p<min c u) && decide (max b q<min d v)):=by
  unfold rightRB at *
  simp only [Bool.and_eq_true,decide_eq_true_eq] at h1 h2
  rw [Bool.eq_iff_iff]
  simp only [Bool.and_eq_true,decide_eq_true_eq]
  omega
 rw [hR] at ck
 have m1:=mm_max a p
 have m2:=mm_max b q
 have m3:=mm_min c u
 have m4:=mm_min d v
 rw [pureCall_fn F131 rfl]
 cases hc:(decide (max a p<min c u) && decide (max b q<min d v)) with
 | true =>
  rw [hc,if_pos rfl] at ck
  refine ⟨[.int .i64 (max a p),.int .i64 (max b q),.int .i64 (min c u),.int .i64 (min d v)],?_,rfl,by simp⟩
  simp -implicitDefEqProofs [r131,p131,ret0 m78,r1,r2,h1,h2,m1,m2,m3,m4,ret0 m136,ck,bld4]
 | false =>
  rw [hc,if_neg (by simp)] at ck
  refine ⟨[.int .i64 0,.int .i64 0,.int .i64 0,.int .i64 0],?_,rfl,by simp⟩
  simp -implicitDefEqProofs [r131,p131,ret0 m78,r1,r2,h1,h2,m1,m2,m3,m4,ret0 m136,ck,bld4]
def bxL (v:Vol):List Value:=[.int .i64 v.x0,.int .i64 v.y0,.int .i64 v.x1,.int .i64 v.y1,.int .i64 v.z0,.int .i64 v.z1]
theorem meet_pure (v w:Vol) (h1:rightV v=true) (h2:rightV w=true):pureCall E.P (L E) 66 [.agg ⟨bxL v⟩,.agg ⟨bxL w⟩]=some (.bool (meetV v w)):=by
 obtain ⟨a,b,c,d,e,f,g,u,x⟩:=v
 obtain ⟨a2,b2,c2,d2,e2,f2,g2,u2,x2⟩:=w
 have q1:rightRB a b c d=true:=by unfold rightV at h1;simp only [Bool.and_eq_true] at h1;exact h1.1.1.1.1.1.1.1.1
 have q2:rightRB a2 b2 c2 d2=true:=by unfold rightV at h2;simp only [Bool.and_eq_true] at h2;exact h2.1.1.1.1.1.1.1.1
 obtain ⟨r,hi,hr,hs⟩:=inter_pure a b c d a2 b2 c2 d2 q1 q2
 clear h1 h2
 rw [pureCall_fn F66 rfl]
 unfold meetV bxL
 simp only
 generalize (decide (max a a2<min c c2) && decide (max b b2<min d d2))=z at *
 have sc:scalar (.tuple ⟨[.agg ⟨r⟩,.bool z]⟩)=true:=by
  unfold scalar
  simp [hs,flat_bool]
 have st:∀ (A B:AObj),storeT (some 4) [A,B,.cells 56 [.int .i64 0,.int .i64 0,.int .i64 0,.int .i64 0] 0] 0 (.agg ⟨r⟩) (.pointer (some ⟨2,0,none⟩))=some [A,B,.cells 56 r 0]:=fun A B=>snoc_put (g:=[A,B]) rfl hr (by decide) (Nat.zero_le _)
 cases z with
 | false=>simp -implicitDefEqProofs [r66,p66,ret0 m131,hi,sc,st]
 | true =>
  by_cases k1:e<f2
  ·simp -implicitDefEqProofs [r66,p66,ret0 m131,hi,sc,st,k1]
  ·simp -implicitDefEqProofs [r66,p66,ret0 m131,hi,sc,st,k1]
end Go.Proofs.YtplebjehcgcdeaaGreatDoor.Bm
namespace Go.Proofs.YtplebjehcgcdeaaGreatDoor.Bm
open Go Go.RowKit
open Dw (Vol Ent Phs Drw rightRB rightV meetV)
def clV (v:Vol):Value:=.func (.func 65) ⟨[]⟩ ⟨[cptr (.agg ⟨volR.enc v⟩)]⟩
theorem form1_pure (v w:Vol) (h1:rightV v=true) (h2:rightV w=true):pureCall E.P (L E) 65 [.agg ⟨volR.enc w⟩,cptr (.agg ⟨volR.enc v⟩)]=some (.bool (meetV v w)):=by
 have hm:=meet_pure v w h1 h2
 rw [pureCall_fn F65 rfl]
 have e1:fieldAddrT ⟨some true,some 9⟩ (some (0,⟨some true,some 6⟩)) (cptr (.agg ⟨volR.enc v⟩))=some (cptr (.agg ⟨bxL v⟩)):=rfl
 have e2:∀ h,loadT ⟨some true,some 6⟩ h (cptr (.agg ⟨bxL v⟩))=some (.agg ⟨bxL v⟩):=fun h=>rfl
 have e3:aBox [] tV (.agg ⟨volR.enc w⟩)=some (.pointer (some ⟨0,0,none⟩),[.cells tV (volR.enc w) 0]):=rfl
 have e4:fieldAddrT ⟨some true,some 9⟩ (some (0,⟨some true,some 6⟩)) (.pointer (some ⟨0,0,none⟩))=some (.pointer (some ⟨0,0,none⟩)):=rfl
 have e5:loadT ⟨some true,some 6⟩ [.cells tV (volR.enc w) 0] (.pointer (some ⟨0,0,none⟩))=some (.agg ⟨bxL w⟩):=rfl
 have rv:∀ h,reify E.P 8 h (.agg ⟨bxL v⟩)=some (.agg ⟨bxL v⟩):=fun h=>rfl
 have rw_:∀ h,reify E.P 8 h (.agg ⟨bxL w⟩)=some (.agg ⟨bxL w⟩):=fun h=>rfl
 generalize volR.enc v=LV at *
 generalize volR.enc w=LW at *
 generalize bxL v=BV at *
 generalize bxL w=BW at *
 simp -implicitDefEqProofs [r65,padS,e1,e2,e4,e5,rv,rw_,ret0 m66,hm]
def fidx (p:Vol→Bool):Nat→List Vol→Int
 | _,[]=>-1
 | i,w :: r=>if p w then i else fidx p (i+1) r
theorem fidx_any {p:Vol→Bool}:∀ {l:List Vol} {i:Nat},0≤fidx p i l↔l.any p=true
 | [],i=>by simp [fidx]
 | w :: r,i=>by
  unfold fidx
  rw [List.any_cons]
  cases h:p w with
  | true=>simp
  | false=>simpa using fidx_any (p:=p) (l:=r) (i:=i+1)
theorem fidx_none {p:Vol→Bool}:∀ {l:List Vol} {i:Nat},l.any p=false→fidx p i l = -1
 | [],i,_=>rfl
 | w :: r,i,h=>by
  rw [List.any_cons,Bool.or_eq_false_iff] at h
  unfold fidx
  rw [h.1]
  exact fidx_none h.2
theorem index_pure (pre:List Vol) (x:Bool) (v:Vol) (h1:rightV v=true) (h2:∀ w∈pre,rightV w=true) (hl:pre.length≤1000000) :
  pureCall E.P (L E) 130 [lst x (volR.vals pre),clV v]=some (.int .i64 (fidx (meetV v) 0 pre)):=by
 have ll:∀ h,lenT .sl h (lst x (volR.vals pre))=some (.int .i64 pre.length):=fun h=>Rec.tree_len
 have ix:=fun (i:Nat) (hi:i<pre.length)=>Rec.index_tree (R:=volR) (h0:=9) (x:=x) (t:=tV) (k:=.i64) rfl hi
 have fm:=fun w (hw:w∈pre)=>form1_pure v w h1 (h2 w hw)
 have fit:∀ w:Vol,fitsTT ⟨some true,some 9⟩ (.agg ⟨volR.enc w⟩)=true:=fun w=>rfl
 have rf:∀ (w:Vol) h,reify E.P 8 h (.agg ⟨volR.enc w⟩)=some (.agg ⟨volR.enc w⟩):=fun w h=>rfl
 have rc:∀ (w:Vol) h,reify E.P 8 h (cptr (.agg ⟨volR.enc w⟩))=some (cptr (.agg ⟨volR.enc w⟩)):=fun w h=>rfl
 rw [pureCall_fn F130 rfl]
 generalize lst x (volR.vals pre)=VP at *
 unfold clV
 simp -implicitDefEqProofs [r130,p130,ll]
 rw [LL_for (γ:=Unit) pre () (fun i _=>[(8,.int .i64 (i:Int))]) (fun _ _=>[]) (fun i rest _=>if rest.any (meetV v) then (.ret,[(4,.int .i64 (fidx (meetV v) i rest)),(8,undef)],[]) else (.exit 0,[(8,undef)],[])) (fun _ _=>True) (by omega) trivial]
 ·cases ha:pre.any (meetV v) with
  | true=>simp -implicitDefEqProofs [k130_2]
  | false =>
   have e:=fidx_none (i:=0) ha
   simp -implicitDefEqProofs [k130_2,e]
 ·simp -implicitDefEqProofs [k130_2]
 ·rfl
 ·intro nx i c hi _
  simp -implicitDefEqProofs [r130_2,k130_2,hi,trim_le]
 ·intro nx i w rest u hi hv hd hw _ ih
  have ih:=ih () trivial
  have xi:=ix i hi
  rw [hv] at xi
  change _=some (cptr (.agg ⟨volR.enc w⟩)) at xi
  have mw:=fm w (by rw [← hv];exact List.getElem_mem hi)
  have ftw:=fit w
  have rfw:=rf w
  have rcv:=rc v
  rw [List.any_cons]
  unfold fidx
  generalize volR.enc w=LW at *
  generalize volR.enc v=LV at *
  cases hmw:meetV v w with
  | true =>
   rw [hmw] at mw
   simp -implicitDefEqProofs [r130_2,k130_2,hi,xi,ftw,rfw,rcv,ret0 m65,mw,trim_le]
  | false =>
   rw [hmw] at mw
   rw [Bool.false_or,show (if (false=true) then (i:Int) else fidx (meetV v) (i+1) rest)=fidx (meetV v) (i+1) rest from rfl]
   simp -implicitDefEqProofs [k130_2] at ih
   simp -implicitDefEqProofs [r130_2,k130_2,hi,xi,ftw,rfw,rcv,ret0 m65,mw,hw,trim_le]
   exact ih
theorem conts_pure (pre:List Vol) (x:Bool) (v:Vol) (h1:rightV v=true) (h2:∀ w∈pre,rightV w=true) (hl:pre.length≤1000000) :
  pureCall E.P (L E) 64 [lst x (volR.vals pre),clV v]=some (.bool (pre.any (meetV v))):=by
 have ip:=index_pure pre x v h1 h2 hl
 have rc:∀ h,reify E.P 8 h (clV v)=some (clV v):=fun h=>rfl
 have rl:∀ h,reify E.P 8 h (lst x (volR.vals pre))=some (lst x (volR.vals pre)):=fun h=>rfl
 have hf:=fidx_any (p:=meetV v) (l:=pre) (i:=0)
 rw [pureCall_fn F64 rfl]
 generalize lst x (volR.vals pre)=VP at *
 generalize clV v=CL at *
 generalize fidx (meetV v) 0 pre=z at *
 cases ha:pre.any (meetV v) with
 | true =>
  have hz:0≤z:=hf.2 ha
  simp -implicitDefEqProofs [r64,padS,rc,rl,ret0 m130,ip,hz]
 | false =>
  have hz:¬ 0≤z:=fun q=>by have:=hf.1 q;rw [ha] at this;cases this
  simp -implicitDefEqProofs [r64,padS,rc,rl,ret0 m130,ip,hz]
end Go.Proofs.YtplebjehcgcdeaaGreatDoor.Bm
