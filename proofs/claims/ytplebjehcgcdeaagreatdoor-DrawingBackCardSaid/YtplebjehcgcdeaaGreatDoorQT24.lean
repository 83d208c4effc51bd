/-
 slices.Clone at volumes and entries: its contract at lists of no elements. Conditions: none.
-/
import Derived.Test.YtplebjehcgcdeaaGreatDoorQT17
import Derived.Test.YtplebjehcgcdeaaGreatDoorQT23
import Derived.Shelf.SlSortCmp.WholeK
import Derived.Shelf.SlSortCmp.NoneTotal
import Derived.Test.YtplebjehcgcdeaaGreatDoorQT16
import Derived.Test.YtplebjehcgcdeaaGreatDoorChecked
import Derived.Shelf.Sort.Plain
import Derived.Shelf.Slices.In.SortNone
import Derived.Shelf.Slices.CompactI
import Derived.Shelf.RegionOpenPlain
import Derived.WalkKit
import Derived.Deep.LoopGhost
import Derived.Lib.Walk
import Derived.Lib.SliceRun
namespace Go.Proofs.YtplebjehcgcdeaaGreatDoor.Bm
open Go Go.RowKit Go.Shelf Go.Sort
theorem cmpZ_flip (a b:Int):cmpZ b a = - cmpZ a b:=by unfold cmpZ;repeat' split <;> omega
theorem cmpZ_eq {a b:Int}:cmpZ a b=0↔a=b:=by unfold cmpZ;repeat' split <;> omega
theorem cmpZ_trans {a b c:Int} (h1:cmpZ a b≤0) (h2:cmpZ b c≤0):cmpZ a c≤0∧(cmpZ a c=0→cmpZ a b=0∧cmpZ b c=0):=by
 unfold cmpZ at *
 repeat' split at h1
 all_goals (repeat' split at h2)
 all_goals (repeat' split)
 all_goals omega
theorem lexZ_flip:∀ (a b:List Int),lexZ b a = - lexZ a b
 | [],[]=>rfl
 | [],_ :: _=>rfl
 | _ :: _,[]=>rfl
 | x :: a,y :: b=>by
  have ih:=lexZ_flip a b
  have hf:=cmpZ_flip x y
  unfold lexZ
  by_cases h:cmpZ x y=0
  ·rw [if_pos h,if_pos (by omega),ih]
  ·rw [if_neg h,if_neg (by omega),hf]
theorem lexZ_eq:∀ {a b:List Int},a.length=b.length→lexZ a b=0→a=b
 | [],[],_,_=>rfl
 | [],_ :: _,h,_=>by simp at h
 | _ :: _,[],h,_=>by simp at h
 | x :: a,y :: b,hl,h=>by
  unfold lexZ at h
  by_cases hc:cmpZ x y=0
  ·rw [if_pos hc] at h
   rw [cmpZ_eq.1 hc,lexZ_eq (by simpa using hl) h]
  ·rw [if_neg hc] at h;exact absurd h hc
theorem lexZ_trans:∀ {a b c:List Int},a.length=b.length→b.length=c.length→lexZ a b≤0→lexZ b c≤0→lexZ a c≤0
 | [],[],[],_,_,_,_=>Int.le_refl _
 | [],[],_ :: _,_,h,_,_=>by simp at h
 | [],_ :: _,_,h,_,_,_=>by simp at h
 | _ :: _,[],_,h,_,_,_=>by simp at h
 | _ :: _,_ :: _,[],_,h,_,_=>by simp at h
 | x :: a,y :: b,z :: c,hl,hm,h1,h2=>by
  unfold lexZ at *
  have c1:cmpZ x y≤0:=by split at h1 <;> omega
  have c2:cmpZ y z≤0:=by split at h2 <;> omega
  obtain ⟨c3,c4⟩:=cmpZ_trans c1 c2
  split
  ·rename_i h0
   obtain ⟨e1,e2⟩:=c4 h0
   rw [if_pos e1] at h1
   rw [if_pos e2] at h2
   exact lexZ_trans (by simpa using hl) (by simpa using hm) h1 h2
  ·exact c3
theorem ltP_swo (T:List ((Int × Int) × Int)):SWO (ltP T):=by
 have hl:∀ x y,(keyP T x).length=(keyP T y).length:=fun _ _=>rfl
 refine ⟨fun x=>?_,fun x y z h1 h2=>?_,fun x y z h1 h2=>?_⟩
 ·have:=lexZ_flip (keyP T x) (keyP T x)
  unfold ltP cmpP
  rw [decide_eq_false_iff_not];omega
 ·unfold ltP cmpP at *
  rw [decide_eq_true_eq] at *
  have h3:=lexZ_trans (hl x y) (hl y z) (by omega) (by omega)
  rcases Int.lt_or_eq_of_le h3 with h | h
  ·exact h
  ·have e:=lexZ_eq (hl x z) h
   have:=lexZ_flip (keyP T y) (keyP T z)
   rw [e] at h1
   omega
 ·unfold ltP cmpP at *
  rw [decide_eq_false_iff_not] at *
  have f1:=lexZ_flip (keyP T x) (keyP T y)
  have f2:=lexZ_flip (keyP T y) (keyP T z)
  have f3:=lexZ_flip (keyP T x) (keyP T z)
  have:=lexZ_trans (hl z y) (hl y x) (by omega) (by omega)
  omega
theorem ltP_anti (T:List ((Int × Int) × Int)) (x y:Prb) (h1:ltP T x y=false) (h2:ltP T y x=false):x=y:=by
 unfold ltP cmpP at *
 rw [decide_eq_false_iff_not] at *
 have f:=lexZ_flip (keyP T x) (keyP T y)
 have e:=lexZ_eq (a:=keyP T x) (b:=keyP T y) rfl (by omega)
 obtain ⟨a,b,c,d⟩:=x
 obtain ⟨a',b',c',d'⟩:=y
 unfold keyP at e
 simp only [List.cons.injEq,and_true] at e
 obtain ⟨_,rfl,rfl,rfl,rfl⟩:=e
 rfl
theorem insP_perm (T:List ((Int × Int) × Int)) (x:Prb):∀ l:List Prb,(insP T x l).Perm (x :: l)
 | []=>.refl _
 | y :: l=>by
  unfold insP
  split
  ·exact (List.Perm.cons y (insP_perm T x l)).trans (List.Perm.swap x y l)
  ·exact .refl _
theorem srtP_perm (T:List ((Int × Int) × Int)):∀ l:List Prb,(srtP T l).Perm l
 | []=>.refl _
 | x :: l=>(insP_perm T x _).trans (List.Perm.cons x (srtP_perm T l))
theorem insP_sorted (T:List ((Int × Int) × Int)) (x:Prb):∀ {l:List Prb},l.Pairwise (fun a b=>ltP T b a=false)→(insP T x l).Pairwise (fun a b=>ltP T b a=false)
 | [],_=>by simp [insP]
 | y :: l,h=>by
  have hS:=ltP_swo T
  rw [List.pairwise_cons] at h
  unfold insP
  split
  ·rename_i hy
   rw [List.pairwise_cons]
   refine ⟨fun z hz=>?_,insP_sorted T x h.2⟩
   rcases List.mem_cons.1 ((insP_perm T x l).mem_iff.1 hz) with rfl | hz
   ·cases hc:ltP T z y with
    | false=>rfl
    | true =>
     have:=hS.trans _ _ _ hy hc
     rw [hS.irrefl] at this
     cases this
   ·exact h.1 z hz
  ·rename_i hy
   rw [Bool.not_eq_true] at hy
   rw [List.pairwise_cons,List.pairwise_cons]
   refine ⟨fun z hz=>?_,h.1,h.2⟩
   rcases List.mem_cons.1 hz with rfl | hz
   ·exact hy
   ·exact hS.ntrans _ _ _ (h.1 z hz) hy
theorem srtP_sorted (T:List ((Int × Int) × Int)):∀ l:List Prb,(srtP T l).Pairwise (fun a b=>ltP T b a=false)
 | []=>.nil
 | x :: l=>insP_sorted T x (srtP_sorted T l)
theorem srtP_eq (T:List ((Int × Int) × Int)) (l:List Prb):l.mergeSort (fun x y=>!ltP T y x)=srtP T l:=by
 have hS:=ltP_swo T
 refine List.Perm.eq_of_pairwise (le:=fun a b=>ltP T b a=false) (fun a b _ _ h1 h2=>ltP_anti T a b h2 h1) ?_ (srtP_sorted T l) ((List.mergeSort_perm l _).trans (srtP_perm T l).symm)
 refine List.Pairwise.imp (fun h=>by simpa using h) (List.pairwise_mergeSort (fun a b c h1 h2=>?_) (fun a b=>?_) l)
 ·simp only [Bool.not_eq_true'] at *
  exact hS.ntrans _ _ _ h2 h1
 ·cases h:ltP T b a with
  | false=>rfl
  | true =>
   cases h2:ltP T a b with
   | false=>rfl
   | true =>
    have:=hS.trans _ _ _ h h2
    rw [hS.irrefl] at this
    cases this
theorem prD_some:∀ {c:List Value} {l:List Prb},prD c=some l→c=l.flatMap prV
 | [],l,h=>by cases h;rfl
 | .int .i64 a :: .int .i64 b :: .int .i64 c :: .int .i64 d :: r,l,h=>by
  unfold prD at h
  obtain ⟨m,hm,rfl⟩:=Option.map_eq_some_iff.1 h
  rw [List.flatMap_cons,← prD_some hm];rfl
theorem prV_len (d:List Prb):(d.flatMap prV).length=d.length * 4:=by
 induction d with
 | nil=>rfl
 | cons x d ih =>
  show (d.flatMap prV).length+1+1+1+1=(d.length+1) * 4
  rw [ih];omega
theorem prV_get:∀ (d:List Prb) (t:Nat),t<d.length * 4→(d.flatMap prV)[t]! = (prV d[t / 4]!)[t % 4]!
 | [],t,h=>by simp at h
 | x :: d,0,_=>rfl
 | x :: d,1,_=>rfl
 | x :: d,2,_=>rfl
 | x :: d,3,_=>rfl
 | x :: d,t+4,h=>by
  have ih:=prV_get d t (by simp at h;omega)
  have e1:(t+4) / 4=t / 4+1:=by omega
  have e2:(t+4) % 4=t % 4:=by omega
  rw [e1,e2]
  show (d.flatMap prV)[t]! = _
  rw [ih];rfl
theorem prV_flat (d:Array Prb):flatK prV 4 d=(d.toList.flatMap prV).toArray:=by
 obtain ⟨l⟩:=d
 refine ext_get! (by rw [size_flatK];show l.length * 4=(l.flatMap prV).length;rw [prV_len]) fun t ht=>?_
 have ht':t<l.length * 4:=by simpa using ht
 rw [get_flatK prV 4 ⟨l⟩ t ht']
 have e:(l.flatMap prV).toArray[t]! = (l.flatMap prV)[t]!:=by simp
 have e2:∀ i,(l.toArray)[i]! = l[i]!:=fun i=>by first | rfl | exact (List.getElem!_toArray ..) | (by_cases h:i<l.length <;> simp [h])
 show (prV l.toArray[t / 4]!)[t % 4]! = (l.flatMap prV).toArray[t]!
 rw [e,prV_get l t ht',e2]
theorem prV_atoms:∀ l:List Prb,(l.flatMap prV).all Bm.atom=true
 | []=>rfl
 | x :: l=>by rw [List.flatMap_cons,List.all_append,prV_atoms l];rfl
theorem prV_rel {M:Mem} (x:Prb):VRel M (.agg ⟨prV x⟩) (.agg (prV x).toArray):=by
 have key:∀ (i:Nat) u,(prV x)[i]?=some u→atom u=true:=by
  intro i u hu
  have:=prV_atoms [x]
  rw [List.flatMap_cons,List.flatMap_nil,List.append_nil] at this
  exact List.all_eq_true.1 this u (List.mem_of_getElem? hu)
 refine .agg _ _ rfl (fun i u hu=>atom_one (key i u (by simpa using hu))) fun i u u' hu hu'=>?_
 have h1:(prV x)[i]?=some u:=by simpa using hu
 have h2:(prV x)[i]?=some u':=by simpa using hu'
 rw [h1] at h2
 cases h2
 exact .atom _ (key i u h1)
structure PrbCon (P:Program) (f q:FuncId):Prop where
 dfd:∃ fn,P.funcs[f]?=some fn∧fn.body.isSome=true
 nls:∀ (p:Option Addr) (cap:Nat) (x:Value) (w:World),Calls P f #[.slice p 0 cap,.func (.func q) #[] #[x]] w fun e w'=>e=.returned (.tuple #[])∧w'=w
 sort:∀ (cf:Prb→Prb→Int),SWO (ltOf cf)→∀ (x:Value) (blk off cap:Nat) (d:Array Prb) (w:World),CmpLays P q #[x] prV 4 cf blk off d.size w→HoldsK prV 4 w blk off d→blk<w.heap.size→d.size<4611686018427387904 →
  Calls P f #[.slice (some ⟨blk,off,none⟩) d.size cap,.func (.func q) #[] #[x]] w fun e w'=>e=.returned (.tuple #[])∧∃ d' n os,PermIn 0 d.size d d'∧SortedIn (ltOf cf) 0 d.size d'∧w'=sortWorldK prV 4 w blk off n d' os
theorem past_grow {E:Env} {w w':World} (hd:E.dm=true) (h:Past E w w'):∃ q os,w'=grow (w.drewN q) os:=by
 refine ⟨w'.drawn-w.drawn,w'.heap.extract w.heap.size w'.heap.size,?_⟩
 have hh:w'.heap=w.heap++w'.heap.extract w.heap.size w'.heap.size:=by
  apply Array.ext_getElem?
  intro i
  by_cases hi:i<w.heap.size
  ·rw [Array.getElem?_append_left hi,h.block i hi]
  ·rw [Array.getElem?_append_right (by omega),Array.getElem?_extract]
   have hs:=h.size
   by_cases h2:i<w'.heap.size
   ·rw [if_pos (by omega)]
    congr 1;omega
   ·rw [if_neg (by omega),Array.getElem?_eq_none (by omega)]
 have h4:=h.drawn hd
 obtain ⟨h1,h2,h3,_,_,_⟩:=h
 cases w;cases w'
 simp only [World.drewN,grow] at *
 subst h1;subst h2;subst h3
 congr 1
 omega
def CmpRuns (E₀:Env) (q q1:FuncId):Prop:=∀ (h:Heap) (p a:Addr) (m ck:Nat) (t u:TypeId) (es:List MapEntry) (T:List ((Int × Int) × Int)) (x y:Prb),plainA p=true→plainA a=true →
 h[p.block]?=some (.cells t [.func (.func q1) ⟨[]⟩ ⟨[.pointer (some a)]⟩] 0)→h[a.block]?=some (.cells u [.map (some m)] 0)→h[m]?=some (.map es ck)→tabP es=some T →
 ∃ h',L E₀ q [.agg ⟨prV x⟩,.agg ⟨prV y⟩,.pointer (some p)] h h.length=some (.int .i64 (cmpP T x y),h')
section
variable {E E₀:Env} {B lo:Nat} {M:Mem} {h h':Heap} {w:World}
theorem inP_sound (hP:OkProg E.P) (hp:E₀.P=E.P) (hg:E₀.glob=E.glob) (hn:E₀.gany=E.gany) (hn2:E₀.tabs=E.tabs) (h0:∀ f,E₀.orc f=none) (hd0:E₀.dm=true) (_hdm:E.dm=false) {f q q1:FuncId} (hC:PrbCon E.P f q) (hR:CmpRuns E₀ q q1)
  {args:List Value} {v:Value} (hr:inP q q1 args h lo=some (v,h')) (_hlo:lo≤h.length) (args':Array Value) (hs:HSim E B M h w) (hv:VRels M args args'.toList) :
  Calls E.P f args' w fun e w'=>∃ v',e=.returned v'∧Out E B lo M h w v h' v' w':=by
 have nothing:∀ (r:Option Addr) (cap:Nat) (x:Value),Calls E.P f #[.slice r 0 cap,.func (.func q) #[] #[x]] w fun e w'=>∃ v',e=.returned v'∧Out E B lo M h w (.tuple #[]) h v' w':=fun r cap x =>
  (hC.nls r cap x w).mono fun e w' he=>⟨_,he.1,by rw [he.2];exact ⟨M,.top _,hs,.refl hs lo⟩⟩
 have two:∀ {u x:Value} {p:FuncId},args=[u,.func (.func p) ⟨[]⟩ ⟨[x]⟩]→∃ u' x',args'=#[u',.func (.func p) #[] #[x']]∧VRel M u u'∧VRel M x x':=by
  intro u x p e
  subst e
  obtain ⟨u',hu,r1⟩:=hv.get (i:=0) (u:=u) rfl
  obtain ⟨w',hw,r2⟩:=hv.get (i:=1) (u:=.func (.func p) ⟨[]⟩ ⟨[x]⟩) rfl
  have hl2:args'.toList.length=2:=hv.1.symm
  obtain ⟨x',y',rfl,hx,hy,_,hyr⟩:=r2.funcSome
  have hx0:x'=#[]:=Array.eq_empty_of_size_eq_zero hx.symm
  subst hx0
  obtain ⟨l⟩:=y'
  match l,hy with
  | [z],_ =>
   refine ⟨u',z,?_,r1,hyr 0 x z rfl rfl⟩
   apply Array.ext'
   match hm:args'.toList,hl2 with
   | [a,b],_ =>
    rw [hm] at hu hw
    cases hu;cases hw;rfl
 unfold inP at hr
 split at hr
 ·rename_i a n c p x
  obtain ⟨v1,x',rfl,hrel,hxr⟩:=two rfl
  split at hr
  case isFalse=>cases hr
  rename_i hpn
  obtain ⟨rfl,hnc⟩:=hpn
  split at hr
  ·rename_i h0
   cases hr;subst h0
   rcases hrel.sliceSome with ⟨a',c',rfl,_,_⟩ | ⟨rfl,_,rfl,_⟩
   ·exact nothing (some a') c' x'
   ·exact nothing none 0 x'
  ·rename_i hn0
   unfold inCR at hr
   split at hr
   case h_2=>cases hr
   rename_i t row g hob
   simp only [Option.bind_eq_some_iff,Option.ite_none_right_eq_some,Option.some.injEq,Prod.mk.injEq] at hr
   obtain ⟨d,hd,⟨h1,hst,hoff0,hnl,hbig⟩,rfl,rfl⟩:=hr
   -- what the order is
   unfold prbF at hd
   split at hd
   case h_2=>cases hd
   rename_i pp
   split at hd
   case h_2=>cases hd
   rename_i tp f1 ap hobp
   split at hd
   case isFalse=>cases hd
   rename_i hq
   obtain ⟨rfl,hpl,hpa⟩:=hq
   split at hd
   case h_2=>cases hd
   rename_i tm m hoba
   split at hd
   case h_2=>cases hd
   rename_i es ck hobm
   obtain ⟨T,hT,hd⟩:=Option.bind_eq_some_iff.1 hd
   obtain ⟨pl,hpd,rfl⟩:=Option.map_eq_some_iff.1 hd
   have hrow:=prD_some hpd
   have hcl:(row.take (n * 4)).length=n * 4:=by rw [List.length_take];omega
   have hpln:pl.length=n:=by
    have:=prV_len pl
    rw [← hrow,hcl] at this
    omega
   generalize hS:srtP T pl=S
   have hSl:S.length=n:=by rw [← hS,(srtP_perm T pl).length_eq,hpln]
   have hdl0:(S.flatMap prV).length=n * 4:=by rw [prV_len,hSl]
   have hnk:0<n * 4:=by omega
   rcases hrel.sliceSome with ⟨a',c',rfl,hlc,hcap⟩ | ⟨_,h0',_⟩
   case inr=>exact absurd h0' hn0
   obtain ⟨l,hl,hcap⟩:=hcap
   obtain ⟨hgr,hlen,hnr,hre⟩:=hs.obj _ l t row g hl hob
   have hreal:l.real:=by
    by_cases hr:l.real
    ·exact hr
    ·have:=hnr hr;rw [this] at hnl;simp at hnl;omega
   obtain ⟨cs,ty,hb,hsz,hoff,hc⟩:=hre hreal
   have ha:a'=⟨l.blk,l.off,none⟩∧c≤c':=by
    unfold stampOk at hst
    split at hst
    ·rename_i e
     rw [e] at hcap
     rcases hcap.2.2 with k | k
     ·have:=hcap.2.1;omega
     ·exact ⟨by rw [k,hoff0];rfl,by have:=hcap.2.1;omega⟩
    ·rename_i k g0 e
     rw [e] at hcap
     have:=hcap.2.2 ((hlen (by omega)).trans (beq_iff_eq.1 hst).symm)
     rcases this.2 with k | k
     ·omega
     ·exact ⟨by rw [k.1,hoff0];rfl,this.1⟩
    ·cases hst
   obtain ⟨rfl,hcc⟩:=ha
   have hlt:=((hs.dom _ l hl).2 hreal).2
   have hat1:((row.take (n * 4))).all atom=true:=by rw [hrow];exact prV_atoms pl
   have hcell:∀ j (hj:j<n * 4),cs[l.off+j]?=some ((row.take (n * 4))[j]'(by omega)):=by
    intro j hj
    have hj':row[j]?=some ((row.take (n * 4))[j]'(by omega)):=by
     rw [List.getElem_take]
     exact List.getElem?_eq_getElem (by omega)
    obtain ⟨_,v',q1,q2⟩:=hc j _ hj'
    rw [q1,atom_same (List.all_eq_true.1 hat1 _ (List.getElem_mem _)) q2]
   have hH:Holds id w l.blk l.off (row.take (n * 4)).toArray:=by
    intro j hj
    have hj:j<n * 4:=by simpa [hcl] using hj
    refine ⟨?_,?_⟩
    ·have:=hcell j hj
     simp only [World.cell?,hb,Option.isSome_none,Bool.false_eq_true,if_false]
     rw [this]
     have hjj:j<(row.take (n * 4)).length:=by omega
     exact congrArg some (arr_get hjj).symm
    ·simp only [World.frozen?,hb];simp
   have hput_same:∀ ln,(g=0→ln=l.len)→(g≠0→ln=row.length)→M.put a.block { l with len:=ln } = M:=fun ln e1 e2=>by
    refine put_same ?_
    rw [hl]
    by_cases hg0:g=0
    ·rw [e1 hg0]
    ·rw [e2 hg0,← hlen hg0]
   -- the worlds that the sort passes through
   have sim:∀ (m:Nat) (os:Array Obj) (dk:Array Prb),dk.size=n→HSim E B M (h.set a.block (.cells t (dk.toList.flatMap prV++row.drop (n * 4)) g)) (sortWorldK prV 4 w l.blk l.off m dk os) ∧
     Evo E lo M h w M (h.set a.block (.cells t (dk.toList.flatMap prV++row.drop (n * 4)) g)) (sortWorldK prV 4 w l.blk l.off m dk os):=by
    intro m os dk hdk
    have hdl:dk.toList.length=n:=by simpa using hdk
    have hfl:(dk.toList.flatMap prV).length=n * 4:=by rw [prV_len,hdl]
    have hat2:=prV_atoms dk.toList
    have p1:Past E w (Go.Sort.ahead w m):=⟨rfl,rfl,rfl,fun _=>Nat.le_add_right _ _,Nat.le_refl _,fun _ _=>rfl⟩
    have s1:HSim E B M h (Go.Sort.ahead w m):=hs.past p1 (Ψ:=M.phi) (fun _ _ _ k=>k) (fun b x v k=>hs.phi b x v k) (fun _ _ _=>rfl)
    have v1:Evo E lo M h w M h (Go.Sort.ahead w m):=Evo.past hs p1 (Ψ:=M.phi) (fun _ _ _ k=>k) (fun _ _ _=>rfl) lo
    have hb1:(Go.Sort.ahead w m).heap[l.blk]?=some (.cells cs _ (0,0)):=hb
    unfold sortWorldK putRowK
    rw [prV_flat,put_eqV hb1]
    generalize dk.toList.flatMap prV=D at *
    have hdl:(D++row.drop (n * 4)).length=row.length:=by rw [List.length_append,hfl,List.length_drop];omega
    have hput:=s1.put (lo:=lo) (t:=t) (c:=row) (d:=D++row.drop (n * 4)) (g:=g) (cs:=putCells id l.off D.toArray cs) hl hob hreal h1 (by simp [putCells,hsz]) (by rw [hdl];exact hoff) (.inl hdl) (fun j v hj=>by
     by_cases hjn:j<n * 4
     ·rw [List.getElem?_append_left (by rw [hfl];exact hjn),List.getElem?_eq_getElem (by rw [hfl];exact hjn)] at hj
      cases hj
      have hda:=List.all_eq_true.1 hat2 _ (List.getElem_mem (l:=D) (n:=j) (by rw [hfl];exact hjn))
      refine ⟨atom_one hda,_,?_,.atom _ hda⟩
      rw [putCells_getV,hcell j hjn]
      have:l.off≤l.off+j∧l.off+j<l.off+D.toArray.size:=⟨by omega,by simp;omega⟩
      simp only [Option.map_some,this,and_self,if_true]
      simp [hfl,hjn]
     ·rw [List.getElem?_append_right (by omega),hfl,List.getElem?_drop,show n * 4+(j-n * 4)=j by omega] at hj
      obtain ⟨q1,v',q2,q3⟩:=hc j v hj
      refine ⟨q1,v',?_,q3⟩
      rw [putCells_getV,q2]
      have:¬ (l.off≤l.off+j∧l.off+j<l.off+D.toArray.size):=by simp;omega
      simp only [Option.map_some,this,if_false])
    have hsame:=hput_same (if g=0 then l.len else (D++row.drop (n * 4)).length) (fun e=>if_pos e) (fun e=>by rw [if_neg e,hdl])
    simp only [hsame] at hput
    obtain ⟨s2,v2⟩:=hput
    have p3:Past E ((Go.Sort.ahead w m).setRow l.blk (putCells id l.off D.toArray cs)) (grow ((Go.Sort.ahead w m).setRow l.blk (putCells id l.off D.toArray cs)) os) :=
     ⟨rfl,rfl,rfl,fun _=>Nat.le_refl _,by simp [grow],fun b hb=>by simp only [grow];rw [Array.getElem?_append_left hb]⟩
    have ph:∀ b x v,M.phi b x=some v→(grow ((Go.Sort.ahead w m).setRow l.blk (putCells id l.off D.toArray cs)) os).cell? ⟨b,x,none⟩=some v:=fun b x v k=>by
     have:=s2.phi b x v k
     have hlt:=cell_lt this
     simp only [World.cell?] at this ⊢
     rw [p3.block b hlt];exact this
    have s3:=s2.past p3 (Ψ:=M.phi) (fun _ _ _ k=>k) ph (fun _ _ _=>rfl)
    have v3:=Evo.past s2 p3 (Ψ:=M.phi) (fun _ _ _ k=>k) (fun _ _ _=>rfl) lo
    exact ⟨s3,(v1.trans v2).trans v3⟩
   have hP0:OkProg E₀.P:=by rw [hp];exact hP
   have hcells:∀ (b:Nat) (o:AObj),h[b]?=some o→(∀ t' r' g',o=.cells t' r' g'→r'.headD undef≠row.headD undef)→b≠a.block:=by
    rintro b o hb1 hne rfl
    rw [hob] at hb1
    cases hb1
    exact hne _ _ _ rfl rfl
   have hhead:∃ z,row.headD undef=.int .i64 z:=by
    have h1:row.headD undef=(row.take (n * 4)).headD undef:=by
     cases row with
     | nil=>simp at hnl;omega
     | cons r rs=>rw [show n * 4=(n * 4-1)+1 by omega];rfl
    rw [h1,hrow]
    cases pl with
    | nil=>simp at hpln;omega
    | cons y ys=>exact ⟨y.1,rfl⟩
   obtain ⟨z0,hz0⟩:=hhead
   have np:pp.block≠a.block:=hcells _ _ hobp (by rintro t' r' g' e;cases e;rw [hz0];simp)
   have na:ap.block≠a.block:=hcells _ _ hoba (by rintro t' r' g' e;cases e;rw [hz0];simp)
   have nm:m≠a.block:=hcells _ _ hobm (by rintro t' r' g' e;cases e)
   have hcmp:CmpLays E.P p #[x'] prV 4 (cmpP T) l.blk l.off pl.toArray.size w:=by
    intro mm os dk hdk x y
    have hdk:dk.size=n:=by rw [hdk];simpa using hpln
    obtain ⟨s,_⟩:=sim mm os dk hdk
    have s:=(s.kill (lo:=lo) (o:=a.block) h1).1
    rw [List.set_set] at s
    obtain ⟨h2,hrun⟩:=hR (h.set a.block .dead) pp ap m ck tp tm es T x y hpl hpa (by rw [List.getElem?_set_ne (Ne.symm np)];exact hobp) (by rw [List.getElem?_set_ne (Ne.symm na)];exact hoba) (by rw [List.getElem?_set_ne (Ne.symm nm)];exact hobm) hT
    have rel:VRels M [.agg ⟨prV x⟩,.agg ⟨prV y⟩,.pointer (some pp)] (#[Value.agg (prV x).toArray,.agg (prV y).toArray] ++ #[x']).toList:=by
     exact VRels.cons (prV_rel x) (VRels.cons (prV_rel y) (VRels.cons hxr VRels.nil))
    have key:=(L_sound hP0 (noOrc h0)).snd p _ _ _ _ _ hrun (Nat.le_refl _) B M _ _ (s.env hg hn hn2) rel
    rw [hp] at key
    refine key.mono ?_
    rintro e w' ⟨v',rfl,M',k1,k2,k3⟩
    refine ⟨by rw [atom_same rfl k1],?_⟩
    have hno:∀ b,¬ Had (h.set a.block AObj.dead).length M (h.set a.block .dead) b:=by
     rintro b ⟨o,l',ho,hl',_⟩
     have:=(s.dom o l' hl').1
     omega
    exact past_grow hd0 ⟨k3.os,k3.tape,k3.output,k3.drawn,k3.size,fun b hb=>k3.block b hb (hno b)⟩
   have hsz0:pl.toArray.size=n:=by simpa using hpln
   have con:=hC.sort (cmpP T) (ltP_swo T) x' l.blk l.off c' pl.toArray w hcmp (by unfold HoldsK;rw [prV_flat,show pl.toArray.toList=pl from rfl,← hrow];exact hH) hlt (by rw [hsz0];exact hbig)
   rw [hsz0] at con
   refine con.mono fun e w' he=>⟨_,he.1,?_⟩
   obtain ⟨d',m',os,hpm,hso,rfl⟩:=he.2
   have hd':d'.toList=S:=by
    have:=sorted_unique_holds (lt:=ltP T) (ltP_swo T) (ltP_anti T) pl.toArray d' (by rw [hsz0];exact hpm) (by rw [hsz0];exact hso)
    rw [this,← hS]
    exact srtP_eq T pl
   have hds:d'.size=n:=by rw [← Array.length_toList,hd',hSl]
   obtain ⟨s,v⟩:=sim m' os d' hds
   rw [hd'] at s v
   exact ⟨M,.top _,s,v⟩
 ·rename_i p x
  obtain ⟨v1,x',rfl,hrel,_⟩:=two rfl
  split at hr
  case isFalse=>cases hr
  rename_i hp
  subst hp
  cases hr
  obtain ⟨rfl,_,_⟩:=hrel.sliceNone
  exact nothing none 0 x'
 ·cases hr
end
end Go.Proofs.YtplebjehcgcdeaaGreatDoor.Bm
namespace Go.Proofs.YtplebjehcgcdeaaGreatDoor.Bm
open Go Go.RowKit
theorem fn0 {f:FuncId} {r:RFn} (h:rfnOf E f=some r):rfnOf E0 f=some r:=by
 have e:E=topE E0 E.orc:=rfl
 rw [e,top_fn] at h
 exact h
theorem nan0 (z:Int):pureCall E0.P (L E0) 155 [.int .i64 z]=some (.bool false):=by
 rw [pureCall_fn (fn0 F155) rfl]
 simp -implicitDefEqProofs [r155,padS]
theorem cmp0 (a b:Int):pureCall E0.P (L E0) 98 [.int .i64 a,.int .i64 b]=some (.int .i64 (cmpZ a b)):=by
 have n1:=nan0 a
 have n2:=nan0 b
 rw [pureCall_fn (fn0 F98) rfl]
 unfold cmpZ
 by_cases h1:a<b
 ·simp -implicitDefEqProofs [r98,p98,ret0 (E:=E0) (f:=155) rfl,n1,n2,h1]
 by_cases h2:b<a
 ·simp -implicitDefEqProofs [r98,p98,ret0 (E:=E0) (f:=155) rfl,n1,n2,h1,h2]
 simp -implicitDefEqProofs [r98,p98,ret0 (E:=E0) (f:=155) rfl,n1,n2,h1,h2]
def orZ:List Int→Int
 | []=>0
 | a :: l=>if a=0 then orZ l else a
theorem cor0 (l:List Int) (hl:l.length≤1000):pureCall E0.P (L E0) 97 [lst true (l.map (.int .i64))]=some (.int .i64 (orZ l)):=by
 have ix:∀ (i:Nat) (hi:i<l.length),indexAddrT (.sl 3 ⟨some false,some 1⟩) (lst true (l.map (.int .i64))) (.int .i64 (i:Int))=some (cptr (.int .i64 l[i])):=fun i hi=>by
  have e:(l.map (Value.int .i64))[i]?=some (.int .i64 l[i]):=by simp [hi]
  rw [index_lst,if_pos (by omega),show ((i:Int)).toNat=i by omega,e,Option.bind_some,if_pos (by rfl)]
 have ln:∀ h,lenT .sl h (lst true (l.map (.int .i64)))=some (.int .i64 l.length):=fun h=>by rw [len_lst];simp
 rw [pureCall_fn (fn0 F97) rfl]
 simp -implicitDefEqProofs [r97,p97,ln]
 rw [LL_for (γ:=Unit) l () (fun i _=>[(8,.int .i64 i)]) (fun _ _=>[]) (fun _ rest _=>if orZ rest=0 then (.exit 0,[(8,undef)],[]) else (.ret,[(2,.int .i64 (orZ rest)),(8,undef)],[])) (fun _ _=>True) (by omega) trivial]
 ·by_cases h:orZ l=0
  ·simp -implicitDefEqProofs [k97_3,h]
  ·simp -implicitDefEqProofs [k97_3,h]
 ·simp -implicitDefEqProofs [k97_3]
 ·rfl
 ·intro nx i c hi _
  simp -implicitDefEqProofs [r97_3,k97_3,hi,trim_le,orZ]
 ·intro nx i z rest c hi hv hd hw _ ih
  have ih:=ih () trivial
  have ixi:=ix i hi
  rw [hv] at ixi
  have eo:orZ (z :: rest)=if z=0 then orZ rest else z:=rfl
  rw [eo]
  simp -implicitDefEqProofs [k97_3] at ih
  by_cases hz:z=0
  ·subst hz
   simp -implicitDefEqProofs [r97_3,k97_3,hi,ixi,hw,trim_le]
   exact ih
  ·simp -implicitDefEqProofs [r97_3,k97_3,hi,ixi,hz,trim_le]
abbrev tK:TypeId:=141
theorem keq0 (a b c d:Int):aKeyEq E0.P tK (.agg ⟨[.int .i64 a,.int .i64 b]⟩) (.agg ⟨[.int .i64 c,.int .i64 d]⟩)=allOf [some (a == c),some (b == d)]:=by kernel_rfl
theorem kok0 (a b:Int):keyOk E0.P 4 tK (.agg ⟨[.int .i64 a,.int .i64 b]⟩)=true:=by kernel_rfl
theorem find0 (a b:Int):∀ (es:List MapEntry) (T:List ((Int × Int) × Int)) (i:Nat),tabP es=some T→∃ r,aFind E0.P tK (.agg ⟨[.int .i64 a,.int .i64 b]⟩) es i=some r∧(match r with | some (_,v)=>some v | none=>some (.int .i64 0))=some (.int .i64 (areaAt T a b))
 | [],T,i,h=>by
  cases h
  exact ⟨none,rfl,rfl⟩
 | e :: es,T,i,h=>by
  obtain ⟨ek,ev,eb⟩:=e
  unfold tabP at h
  simp only at h
  split at h
  ·rename_i c d n
   obtain ⟨T',hT',rfl⟩:=Option.map_eq_some_iff.1 h
   unfold aFind areaAt
   simp only [keq0,ao_cons _ _ _ (ao_cons _ _ _ ao_nil),Option.bind_some,Bool.and_true]
   by_cases h1:c=a∧d=b
   ·obtain ⟨rfl,rfl⟩:=h1
    refine ⟨some (i,.int .i64 n),by simp,?_⟩
    simp
   ·have:((a == c) && (b == d))=false:=by
     rw [Bool.and_eq_false_iff]
     by_cases h2:a=c
     ·right
      have:¬ b=d:=fun q=>h1 ⟨h2.symm,q.symm⟩
      simpa using this
     ·left;simpa using h2
    rw [this,if_neg (by simp),if_neg h1]
    exact find0 a b es T' (i+1) hT'
  ·cases h
theorem look0 {h:Heap} {m ck:Nat} {es:List MapEntry} {T:List ((Int × Int) × Int)} (hm:h[m]?=some (.map es ck)) (hT:tabP es=some T) (a b:Int):lookupT E0.P (some ⟨tK,some (.int .i64 0)⟩) h (.map (some m)) (.agg ⟨[.int .i64 a,.int .i64 b]⟩) false=some (.int .i64 (areaAt T a b)):=by
 obtain ⟨r,h1,h2⟩:=find0 a b es T 0 hT
 have hf:flat (.agg ⟨[.int .i64 a,.int .i64 b]⟩)=true:=by simp
 unfold lookupT entriesOf
 simp only [Option.bind_some,hf,kok0,Bool.and_self,if_true,hm,h1]
 cases r with
 | none=>simpa using h2
 | some p=>simpa using h2
theorem trim_app (h e:Heap) (vs:List Value):∃ e',trim h.length vs (h++e)=h++e':=by
 unfold Bm.trim
 split
 ·exact ⟨_,rfl⟩
 split
 ·exact ⟨[],by rw [List.take_left,List.append_nil]⟩
 ·exact ⟨_,rfl⟩
theorem get_pre {h e:Heap} {b:Nat} {o:AObj} (hob:h[b]?=some o):(h++e)[b]?=some o:=by rw [List.getElem?_append_left (ob_lt hob)];exact hob
theorem size0 {h:Heap} {a m ck:Nat} {u:TypeId} {es:List MapEntry} {T:List ((Int × Int) × Int)} (ha:h[a]?=some (.cells u [.map (some m)] 0)) (hm:h[m]?=some (.map es ck)) (hT:tabP es=some T) (x:Prb) (lo:Nat) (st:Bool) :
  ∃ e,retCall E0 (L E0) lo st 94 [.agg ⟨prV x⟩,.pointer (some ⟨a,0,none⟩)] h=some (.int .i64 (sizeP T x),h++e):=by
 obtain ⟨p,q,r,s⟩:=x
 have lm:∀ X:Heap,loadT ⟨some false,some 1⟩ (h++X) (.pointer (some ⟨a,0,none⟩))=some (.map (some m)):=fun X=>obj_load (j:=0) (get_pre ha) rfl
 have lk:=fun X:Heap=>look0 (h:=h++X) (get_pre hm) hT p s
 have c2:loadT ⟨some false,some 1⟩ (h++[.cells 67 [.int .i64 p,.int .i64 q,.int .i64 r,.int .i64 s] 0]) (.pointer (some ⟨h.length,2,none⟩))=some (.int .i64 r):=obj_load (j:=2) (t:=67) (c:=[.int .i64 p,.int .i64 q,.int .i64 r,.int .i64 s]) (by simp) rfl
 have c0:loadT ⟨some false,some 1⟩ (h++[.cells 67 [.int .i64 p,.int .i64 q,.int .i64 r,.int .i64 s] 0]) (.pointer (some ⟨h.length,0,none⟩))=some (.int .i64 p):=obj_load (j:=0) (t:=67) (c:=[.int .i64 p,.int .i64 q,.int .i64 r,.int .i64 s]) (by simp) rfl
 have c3:loadT ⟨some false,some 1⟩ (h++[.cells 67 [.int .i64 p,.int .i64 q,.int .i64 r,.int .i64 s] 0]) (.pointer (some ⟨h.length,3,none⟩))=some (.int .i64 s):=obj_load (j:=3) (t:=67) (c:=[.int .i64 p,.int .i64 q,.int .i64 r,.int .i64 s]) (by simp) rfl
 have f2:∀ n k,fieldAddrT k (some (2,⟨some false,some 1⟩)) (.pointer (some ⟨n,0,none⟩))=some (.pointer (some ⟨n,2,none⟩)):=fun _ _=>rfl
 have f3:∀ n k,fieldAddrT k (some (3,⟨some false,some 1⟩)) (.pointer (some ⟨n,0,none⟩))=some (.pointer (some ⟨n,3,none⟩)):=fun _ _=>rfl
 have bA:buildT (.arr ⟨[.int .i64 0,.int .i64 0]⟩ 1) #[(0,.int .i64 p),(1,.int .i64 s)]=some (.agg ⟨[.int .i64 p,.int .i64 s]⟩):=by kernel_rfl
 have key:L E0 94 [.agg ⟨prV (p,q,r,s)⟩,.pointer (some ⟨a,0,none⟩)] h h.length=some (.int .i64 (sizeP T (p,q,r,s)),h++[.cells 67 [.int .i64 p,.int .i64 q,.int .i64 r,.int .i64 s] 0]):=by
  rw [L_fn (fn0 F94) rfl]
  unfold prV sizeP
  simp -implicitDefEqProofs [r94,padS,f2,f3,c2,c0,c3,lm,bA,lk]
 obtain ⟨e',he⟩:=trim_app h [.cells 67 [.int .i64 p,.int .i64 q,.int .i64 r,.int .i64 s] 0] [.int .i64 (sizeP T (p,q,r,s))]
 refine ⟨e',?_⟩
 rw [ret5 (E:=E0) (f:=94) rfl,key,Option.bind_some,frz_set8 rfl rfl,Option.map_some]
 show some (_,trim _ _ _)=_
 rw [he]
theorem runs0:CmpRuns E0 96 94:=by
 intro h p a m ck t u es T x y hp ha h1 h2 h3 hT
 have ep:p=⟨p.block,0,none⟩:=by
  unfold plainA at hp
  simp only [Bool.and_eq_true,beq_iff_eq] at hp
  obtain ⟨b,o,q⟩:=p
  obtain ⟨rfl,rfl⟩:=hp
  rfl
 have ea:a=⟨a.block,0,none⟩:=by
  unfold plainA at ha
  simp only [Bool.and_eq_true,beq_iff_eq] at ha
  obtain ⟨b,o,q⟩:=a
  obtain ⟨rfl,rfl⟩:=ha
  rfl
 rw [ea] at h1 h2
 simp only at h2
 rw [ep]
 generalize a.block=ab at *
 generalize p.block=pb at *
 obtain ⟨x0,x1,x2,x3⟩:=x
 obtain ⟨y0,y1,y2,y3⟩:=y
 have g1:=fun (X:Heap)=>get_pre (e:=X) h1
 have g2:=fun (X:Heap)=>get_pre (e:=X) h2
 have g3:=fun (X:Heap)=>get_pre (e:=X) h3
 obtain ⟨e1,s1⟩:=size0 (h:=h++[.cells 67 (prV (x0,x1,x2,x3)) 0,.cells 67 (prV (y0,y1,y2,y3)) 0]) (g2 _) (g3 _) hT (x0,x1,x2,x3) h.length true
 obtain ⟨e2,s2⟩:=size0 (h:=h++[.cells 67 (prV (x0,x1,x2,x3)) 0,.cells 67 (prV (y0,y1,y2,y3)) 0]++e1) (by rw [List.append_assoc];exact g2 _) (by rw [List.append_assoc];exact g3 _) hT (y0,y1,y2,y3) h.length true
 simp only [List.append_assoc,List.cons_append,List.nil_append] at s1 s2
 refine ⟨h++(.cells 67 (prV (x0,x1,x2,x3)) 0 :: .cells 67 (prV (y0,y1,y2,y3)) 0 :: (e1++e2)),?_⟩
 rw [L_fn (fn0 F96) rfl]
 unfold cmpP keyP
 have hl:∀ a1 a2 a3 a4 a5 b1 b2 b3 b4 b5:Int,lexZ [a1,a2,a3,a4,a5] [b1,b2,b3,b4,b5]=orZ [cmpZ a1 b1,cmpZ a2 b2,cmpZ a3 b3,cmpZ a4 b4,cmpZ a5 b5]:=fun _ _ _ _ _ _ _ _ _ _=>rfl
 rw [hl]
 simp only
 generalize sizeP T (x0,x1,x2,x3)=zx at *
 generalize sizeP T (y0,y1,y2,y3)=zy at *
 have bx:∀ (z:Prb) X,aBox X 67 (.agg ⟨prV z⟩)=some (.pointer (some ⟨X.length,0,none⟩),X++[.cells 67 (prV z) 0]):=fun z X=>rfl
 have dF:∀ X:Heap,loadT ⟨some false,some 1⟩ (h++X) (.pointer (some ⟨pb,0,none⟩))=some (.func (.func 94) ⟨[]⟩ ⟨[.pointer (some ⟨ab,0,none⟩)]⟩):=fun X=>obj_load (j:=0) (g1 X) rfl
 have oA:∀ X:Heap,(h++(.cells 67 (prV (x0,x1,x2,x3)) 0 :: .cells 67 (prV (y0,y1,y2,y3)) 0 :: X))[h.length]?=some (.cells 67 (prV (x0,x1,x2,x3)) 0):=fun X=>by simp
 have oB:∀ X:Heap,(h++(.cells 67 (prV (x0,x1,x2,x3)) 0 :: .cells 67 (prV (y0,y1,y2,y3)) 0 :: X))[h.length+1]?=some (.cells 67 (prV (y0,y1,y2,y3)) 0):=fun X=>by simp
 have lA:∀ X:Heap,loadT ⟨some true,some 4⟩ (h++(.cells 67 (prV (x0,x1,x2,x3)) 0 :: .cells 67 (prV (y0,y1,y2,y3)) 0 :: X)) (.pointer (some ⟨h.length,0,none⟩))=some (.agg ⟨prV (x0,x1,x2,x3)⟩):=fun X=>obj_all (n:=4) (oA X) rfl
 have lB:∀ X:Heap,loadT ⟨some true,some 4⟩ (h++(.cells 67 (prV (x0,x1,x2,x3)) 0 :: .cells 67 (prV (y0,y1,y2,y3)) 0 :: X)) (.pointer (some ⟨h.length+1,0,none⟩))=some (.agg ⟨prV (y0,y1,y2,y3)⟩):=fun X=>obj_all (n:=4) (oB X) rfl
 have lA0:∀ X:Heap,loadT ⟨some false,some 1⟩ (h++(.cells 67 (prV (x0,x1,x2,x3)) 0 :: .cells 67 (prV (y0,y1,y2,y3)) 0 :: X)) (.pointer (some ⟨h.length,0,none⟩))=some (.int .i64 x0):=fun X=>obj_load (j:=0) (oA X) rfl
 have lA1:∀ X:Heap,loadT ⟨some false,some 1⟩ (h++(.cells 67 (prV (x0,x1,x2,x3)) 0 :: .cells 67 (prV (y0,y1,y2,y3)) 0 :: X)) (.pointer (some ⟨h.length,1,none⟩))=some (.int .i64 x1):=fun X=>obj_load (j:=1) (oA X) rfl
 have lA2:∀ X:Heap,loadT ⟨some false,some 1⟩ (h++(.cells 67 (prV (x0,x1,x2,x3)) 0 :: .cells 67 (prV (y0,y1,y2,y3)) 0 :: X)) (.pointer (some ⟨h.length,2,none⟩))=some (.int .i64 x2):=fun X=>obj_load (j:=2) (oA X) rfl
 have lA3:∀ X:Heap,loadT ⟨some false,some 1⟩ (h++(.cells 67 (prV (x0,x1,x2,x3)) 0 :: .cells 67 (prV (y0,y1,y2,y3)) 0 :: X)) (.pointer (some ⟨h.length,3,none⟩))=some (.int .i64 x3):=fun X=>obj_load (j:=3) (oA X) rfl
 have lB0:∀ X:Heap,loadT ⟨some false,some 1⟩ (h++(.cells 67 (prV (x0,x1,x2,x3)) 0 :: .cells 67 (prV (y0,y1,y2,y3)) 0 :: X)) (.pointer (some ⟨h.length+1,0,none⟩))=some (.int .i64 y0):=fun X=>obj_load (j:=0) (oB X) rfl
 have lB1:∀ X:Heap,loadT ⟨some false,some 1⟩ (h++(.cells 67 (prV (x0,x1,x2,x3)) 0 :: .cells 67 (prV (y0,y1,y2,y3)) 0 :: X)) (.pointer (some ⟨h.length+1,1,none⟩))=some (.int .i64 y1):=fun X=>obj_load (j:=1) (oB X) rfl
 have lB2:∀ X:Heap,loadT ⟨some false,some 1⟩ (h++(.cells 67 (prV (x0,x1,x2,x3)) 0 :: .cells 67 (prV (y0,y1,y2,y3)) 0 :: X)) (.pointer (some ⟨h.length+1,2,none⟩))=some (.int .i64 y2):=fun X=>obj_load (j:=2) (oB X) rfl
 have lB3:∀ X:Heap,loadT ⟨some false,some 1⟩ (h++(.cells 67 (prV (x0,x1,x2,x3)) 0 :: .cells 67 (prV (y0,y1,y2,y3)) 0 :: X)) (.pointer (some ⟨h.length+1,3,none⟩))=some (.int .i64 y3):=fun X=>obj_load (j:=3) (oB X) rfl
 have f1:∀ n k,fieldAddrT k (some (1,⟨some false,some 1⟩)) (.pointer (some ⟨n,0,none⟩))=some (.pointer (some ⟨n,1,none⟩)):=fun _ _=>rfl
 have f2:∀ n k,fieldAddrT k (some (2,⟨some false,some 1⟩)) (.pointer (some ⟨n,0,none⟩))=some (.pointer (some ⟨n,2,none⟩)):=fun _ _=>rfl
 have f3:∀ n k,fieldAddrT k (some (3,⟨some false,some 1⟩)) (.pointer (some ⟨n,0,none⟩))=some (.pointer (some ⟨n,3,none⟩)):=fun _ _=>rfl
 have co:=cor0 [cmpZ zx zy,cmpZ x2 y2,cmpZ x0 y0,cmpZ x1 y1,cmpZ x3 y3] (by show 5≤1000;omega)
 have m1:=cmp0 zx zy
 have m2:=cmp0 x2 y2
 have m3:=cmp0 x0 y0
 have m4:=cmp0 x1 y1
 have m5:=cmp0 x3 y3
 have l5:∀ (h:Heap) (a b c d e:Int),buildSliceT (some ⟨3,1,8,.int .i64 0,⟨some false,some 1⟩⟩) false h 5 #[(0,.int .i64 a),(1,.int .i64 b),(2,.int .i64 c),(3,.int .i64 d),(4,.int .i64 e)]=some (lst true [.int .i64 a,.int .i64 b,.int .i64 c,.int .i64 d,.int .i64 e],h):=fun h a b c d e =>
  (build_lit' (n:=5) (l:=[(0,.int .i64 a),(1,.int .i64 b),(2,.int .i64 c),(3,.int .i64 d),(4,.int .i64 e)]) rfl rfl (by decide) (by decide) (by decide)).trans rfl
 have r5:∀ (h:Heap) (a b c d e:Int),reify E0.P 8 h (lst true [.int .i64 a,.int .i64 b,.int .i64 c,.int .i64 d,.int .i64 e])=some (lst true [.int .i64 a,.int .i64 b,.int .i64 c,.int .i64 d,.int .i64 e]):=fun _ _ _ _ _ _=>rfl
 simp only [List.map_cons,List.map_nil] at co
 generalize hA:(AObj.cells 67 (prV (x0,x1,x2,x3)) 0)=A at *
 generalize hB:(AObj.cells 67 (prV (y0,y1,y2,y3)) 0)=B at *
 generalize cmpZ zx zy=z1 at *
 generalize cmpZ x2 y2=z2 at *
 generalize cmpZ x0 y0=z3 at *
 generalize cmpZ x1 y1=z4 at *
 generalize cmpZ x3 y3=z5 at *
 have q0:E0.mode 98=0:=rfl
 have q1:E0.mode 97=0:=rfl
 simp -implicitDefEqProofs [r96,p96,bx,hA,hB,dF,lA,lB,s1,s2,ret0 q0,m1,m2,m3,m4,m5,f1,f2,f3,lA0,lA1,lA2,lA3,lB0,lB1,lB2,lB3,l5,r5,ret0 q1,co,-aBox_eq]
end Go.Proofs.YtplebjehcgcdeaaGreatDoor.Bm
namespace Go.Proofs.YtplebjehcgcdeaaGreatDoor
open Go Go.RowKit Go.Shelf Go.Sort
def lays189_ren:Go.Shelf.Ren:=⟨fun | 189=>172 | 125=>154 | 257=>213 | 128=>200 | 129=>201 | 294=>238 | 295=>239 | 296=>240 | 297=>241 | 298=>242 | 299=>243 | 216=>244 | 300=>245 | 301=>246 | 328=>263 | 329=>223 | 330=>224 | 331=>264 | 332=>265 | 215=>155 | 343=>281 | n=>n,fun | 28=>32 | 3=>3 | 46=>192 | 0=>0 | 51=>228 | 53=>230 | 4=>4 | 183=>221 | 182=>220 | 131=>225 | 5=>5 | 9=>9 | 218=>249 | 222=>253 | 228=>279 | 229=>280 | n=>n,fun | n=>n⟩
theorem lays189:Go.Proofs.Lays.n189 Tryz.prog lays189_ren:={
 mixed:=by kernel_rfl
 f125:=Tryz.func154.trans (congrArg some (by kernel_rfl))
 f128:=Tryz.func200.trans (congrArg some (by kernel_rfl))
 f129:=Tryz.func201.trans (congrArg some (by kernel_rfl))
 f189:=Tryz.func172.trans (congrArg some (by kernel_rfl))
 f215:=Tryz.func155.trans (congrArg some (by kernel_rfl))
 f216:=Tryz.func244.trans (congrArg some (by kernel_rfl))
 f257:=Tryz.func213.trans (congrArg some (by kernel_rfl))
 f294:=Tryz.func238.trans (congrArg some (by kernel_rfl))
 f295:=Tryz.func239.trans (congrArg some (by kernel_rfl))
 f296:=Tryz.func240.trans (congrArg some (by kernel_rfl))
 f297:=Tryz.func241.trans (congrArg some (by kernel_rfl))
 f298:=Tryz.func242.trans (congrArg some (by kernel_rfl))
 f299:=Tryz.func243.trans (congrArg some (by kernel_rfl))
 f300:=Tryz.func245.trans (congrArg some (by kernel_rfl))
 f301:=Tryz.func246.trans (congrArg some (by kernel_rfl))
 f328:=Tryz.func263.trans (congrArg some (by kernel_rfl))
 f329:=Tryz.func223.trans (congrArg some (by kernel_rfl))
 f330:=Tryz.func224.trans (congrArg some (by kernel_rfl))
 f331:=Tryz.func264.trans (congrArg some (by kernel_rfl))
 f332:=Tryz.func265.trans (congrArg some (by kernel_rfl))
 f343:=Tryz.func281.trans (congrArg some (by kernel_rfl))
 t0:=Tryz.underlying0
 a0:=Tryz.isAgg0
 z0:=Tryz.sizeOf0
 v0:=Tryz.zeroValue0
 t3:=Tryz.underlying3
 a3:=Tryz.isAgg3
 z3:=Tryz.sizeOf3
 v3:=Tryz.zeroValue3
 t4:=Tryz.underlying4
 a4:=Tryz.isAgg4
 z4:=Tryz.sizeOf4
 v4:=Tryz.zeroValue4
 t5:=Tryz.underlying5
 a5:=Tryz.isAgg5
 z5:=Tryz.sizeOf5
 v5:=Tryz.zeroValue5
 t9:=Tryz.underlying9
 a9:=Tryz.isAgg9
 z9:=Tryz.sizeOf9
 v9:=Tryz.zeroValue9
 t28:=Tryz.underlying32
 a28:=Tryz.isAgg32
 z28:=Tryz.sizeOf32
 v28:=Tryz.zeroValue32
 t46:=Tryz.underlying192
 a46:=Tryz.isAgg192
 z46:=Tryz.sizeOf192
 v46:=Tryz.zeroValue192
 t51:=Tryz.underlying228
 a51:=Tryz.isAgg228
 z51:=Tryz.sizeOf228
 v51:=Tryz.zeroValue228
 t53:=Tryz.underlying230
 a53:=Tryz.isAgg230
 z53:=Tryz.sizeOf230
 v53:=Tryz.zeroValue230
 t131:=Tryz.underlying225
 a131:=Tryz.isAgg225
 z131:=Tryz.sizeOf225
 v131:=Tryz.zeroValue225
 t182:=Tryz.underlying220
 a182:=Tryz.isAgg220
 z182:=Tryz.sizeOf220
 v182:=Tryz.zeroValue220
 t183:=Tryz.underlying221
 a183:=Tryz.isAgg221
 z183:=Tryz.sizeOf221
 v183:=Tryz.zeroValue221
 t218:=Tryz.underlying249
 a218:=Tryz.isAgg249
 z218:=Tryz.sizeOf249
 v218:=Tryz.zeroValue249
 t222:=Tryz.underlying253
 a222:=Tryz.isAgg253
 z222:=Tryz.sizeOf253
 v222:=Tryz.zeroValue253
 t228:=Tryz.underlying279
 a228:=Tryz.isAgg279
 z228:=Tryz.sizeOf279
 v228:=Tryz.zeroValue279
 t229:=Tryz.underlying280
 a229:=Tryz.isAgg280
 z229:=Tryz.sizeOf280
 v229:=Tryz.zeroValue280 }
theorem conSort:Bm.SortCon Tryz.prog 172 Bm.sortI none where
 row blk off cap zs w hH hblk hsz _:=by
  rw [← Bm.sortI_eq]
  exact Any.slices_Sort_int lays189 blk off cap zs w hH hblk hsz
 none p cap w:=Any.slices_Sort_int_none lays189 p cap w
 dfd:=⟨_,Tryz.func172,rfl⟩
 len:=Bm.sortI_len
 cut:=fun _ h=>by cases h
end Go.Proofs.YtplebjehcgcdeaaGreatDoor
namespace Go.Proofs.YtplebjehcgcdeaaGreatDoor
open Go Go.RowKit Go.Shelf Go.Sort
def laysNm220_ren:Go.Shelf.Ren:=⟨fun | 20=>173 | n=>n,fun | 22=>32 | 3=>3 | 4=>4 | 0=>0 | n=>n,fun | n=>n⟩
theorem laysNm220:Go.Proofs.Lays2.n20 Tryz.prog laysNm220_ren:={
 mixed:=by kernel_rfl
 f20:=Tryz.func173.trans (congrArg some (by kernel_rfl))
 t0:=Tryz.underlying0
 a0:=Tryz.isAgg0
 z0:=Tryz.sizeOf0
 v0:=Tryz.zeroValue0
 t3:=Tryz.underlying3
 a3:=Tryz.isAgg3
 z3:=Tryz.sizeOf3
 v3:=Tryz.zeroValue3
 t4:=Tryz.underlying4
 a4:=Tryz.isAgg4
 z4:=Tryz.sizeOf4
 v4:=Tryz.zeroValue4
 t22:=Tryz.underlying32
 a22:=Tryz.isAgg32
 z22:=Tryz.sizeOf32
 v22:=Tryz.zeroValue32
 i3:=by kernel_rfl }
theorem conComp:Bm.SortCon Tryz.prog 173 Bm.compF (some Bm.compN) where
 row blk off cap zs w hH hblk hsz hc:=(Any.slices_Compact_int laysNm220 blk off cap zs w hH (by omega) hc).mono fun e w' h=>by
  rw [Bm.compact_eq] at h
  exact ⟨h.1,h.2.imp fun n k=>⟨#[],by rw [k];exact (grow_empty _).symm⟩⟩
 none p cap w:=Any.slices_Compact_int_empty laysNm220 p cap w
 dfd:=⟨_,Tryz.func173,rfl⟩
 len:=Bm.compF_len
 cut:=fun m h zs=>by cases h;exact Bm.compG_len zs none
end Go.Proofs.YtplebjehcgcdeaaGreatDoor
namespace Go.Proofs.YtplebjehcgcdeaaGreatDoor
open Go Go.RowKit Go.Shelf Go.Sort
theorem flatK_flat (d:Array (Int × Int)):flatK spanV 2 d=(d.toList.flatMap spanV).toArray:=by
 obtain ⟨l⟩:=d
 refine ext_get! (by rw [size_flatK];show l.length * 2=(l.flatMap spanV).length;rw [flat_len]) fun t ht=>?_
 have ht':t<l.length * 2:=by simpa using ht
 rw [get_flatK spanV 2 ⟨l⟩ t ht']
 have e:(l.flatMap spanV).toArray[t]! = (l.flatMap spanV)[t]!:=by simp
 have e2:∀ i,(l.toArray)[i]! = l[i]!:=fun i=>by first | rfl | exact (List.getElem!_toArray ..) | (by_cases h:i<l.length <;> simp [h])
 show (spanV l.toArray[t / 2]!)[t % 2]! = (l.flatMap spanV).toArray[t]!
 rw [e,flat_get l t ht',e2]
def laysSpan_ren:Go.Shelf.Ren:=⟨fun | 6=>229 | 15=>154 | 14=>258 | 28=>200 | 29=>201 | 20=>271 | 21=>272 | 22=>273 | 23=>274 | 24=>275 | 25=>276 | 26=>277 | 27=>278 | 46=>284 | 47=>223 | 48=>224 | 49=>285 | 50=>286 | 57=>287 | n=>n,fun | 22=>198 | 24=>234 | 25=>258 | 3=>3 | 39=>192 | 0=>0 | 53=>228 | 55=>230 | 4=>4 | 46=>221 | 45=>220 | 50=>225 | 5=>5 | 9=>9 | 66=>249 | 70=>253 | 76=>279 | 77=>280 | n=>n,fun | n=>n⟩
theorem laysSpan:Go.Proofs.SlLaysF0.n6 Tryz.prog laysSpan_ren:={
 mixed:=by kernel_rfl
 f6:=⟨Tryz.f229.name,by decide,Tryz.func229.trans (congrArg some (by kernel_rfl))⟩
 f14:=⟨Tryz.f258.name,by decide,Tryz.func258.trans (congrArg some (by kernel_rfl))⟩
 f15:=Tryz.func154.trans (congrArg some (by kernel_rfl))
 f20:=⟨Tryz.f271.name,by decide,Tryz.func271.trans (congrArg some (by kernel_rfl))⟩
 f21:=⟨Tryz.f272.name,by decide,Tryz.func272.trans (congrArg some (by kernel_rfl))⟩
 f22:=⟨Tryz.f273.name,by decide,Tryz.func273.trans (congrArg some (by kernel_rfl))⟩
 f23:=⟨Tryz.f274.name,by decide,Tryz.func274.trans (congrArg some (by kernel_rfl))⟩
 f24:=⟨Tryz.f275.name,by decide,Tryz.func275.trans (congrArg some (by kernel_rfl))⟩
 f25:=⟨Tryz.f276.name,by decide,Tryz.func276.trans (congrArg some (by kernel_rfl))⟩
 f26:=⟨Tryz.f277.name,by decide,Tryz.func277.trans (congrArg some (by kernel_rfl))⟩
 f27:=⟨Tryz.f278.name,by decide,Tryz.func278.trans (congrArg some (by kernel_rfl))⟩
 f28:=Tryz.func200.trans (congrArg some (by kernel_rfl))
 f29:=Tryz.func201.trans (congrArg some (by kernel_rfl))
 f46:=⟨Tryz.f284.name,by decide,Tryz.func284.trans (congrArg some (by kernel_rfl))⟩
 f47:=Tryz.func223.trans (congrArg some (by kernel_rfl))
 f48:=Tryz.func224.trans (congrArg some (by kernel_rfl))
 f49:=⟨Tryz.f285.name,by decide,Tryz.func285.trans (congrArg some (by kernel_rfl))⟩
 f50:=⟨Tryz.f286.name,by decide,Tryz.func286.trans (congrArg some (by kernel_rfl))⟩
 f57:=⟨Tryz.f287.name,by decide,Tryz.func287.trans (congrArg some (by kernel_rfl))⟩
 t0:=Tryz.underlying0
 a0:=Tryz.isAgg0
 z0:=Tryz.sizeOf0
 v0:=Tryz.zeroValue0
 t3:=Tryz.underlying3
 a3:=Tryz.isAgg3
 z3:=Tryz.sizeOf3
 v3:=Tryz.zeroValue3
 t4:=Tryz.underlying4
 a4:=Tryz.isAgg4
 z4:=Tryz.sizeOf4
 v4:=Tryz.zeroValue4
 t5:=Tryz.underlying5
 a5:=Tryz.isAgg5
 z5:=Tryz.sizeOf5
 v5:=Tryz.zeroValue5
 t9:=Tryz.underlying9
 a9:=Tryz.isAgg9
 z9:=Tryz.sizeOf9
 v9:=Tryz.zeroValue9
 t22:=Tryz.underlying198
 a22:=Tryz.isAgg198
 z22:=Tryz.sizeOf198
 v22:=Tryz.zeroValue198
 t25:=Tryz.underlying258
 a25:=Tryz.isAgg258
 z25:=Tryz.sizeOf258
 v25:=Tryz.zeroValue258
 t39:=Tryz.underlying192
 a39:=Tryz.isAgg192
 z39:=Tryz.sizeOf192
 v39:=Tryz.zeroValue192
 t45:=Tryz.underlying220
 a45:=Tryz.isAgg220
 z45:=Tryz.sizeOf220
 v45:=Tryz.zeroValue220
 t46:=Tryz.underlying221
 a46:=Tryz.isAgg221
 z46:=Tryz.sizeOf221
 v46:=Tryz.zeroValue221
 t50:=Tryz.underlying225
 a50:=Tryz.isAgg225
 z50:=Tryz.sizeOf225
 v50:=Tryz.zeroValue225
 t53:=Tryz.underlying228
 a53:=Tryz.isAgg228
 z53:=Tryz.sizeOf228
 v53:=Tryz.zeroValue228
 t55:=Tryz.underlying230
 a55:=Tryz.isAgg230
 z55:=Tryz.sizeOf230
 v55:=Tryz.zeroValue230
 t66:=Tryz.underlying249
 a66:=Tryz.isAgg249
 z66:=Tryz.sizeOf249
 v66:=Tryz.zeroValue249
 t70:=Tryz.underlying253
 a70:=Tryz.isAgg253
 z70:=Tryz.sizeOf253
 v70:=Tryz.zeroValue253
 t76:=Tryz.underlying279
 a76:=Tryz.isAgg279
 z76:=Tryz.sizeOf279
 v76:=Tryz.zeroValue279
 t77:=Tryz.underlying280
 a77:=Tryz.isAgg280
 z77:=Tryz.sizeOf280
 v77:=Tryz.zeroValue280 }
set_option maxHeartbeats 1000000 in
theorem nan_walk (x:Int) (W:World):Calls Tryz.prog 155 #[.int .i64 x] W fun e w'=>e=.returned (.bool false)∧w'=W:=by
 go_enter Tryz.func155,Tryz.ntmps155
 go_wp2
 go_ret
 exact ⟨rfl,rfl⟩
set_option maxHeartbeats 1000000 in
theorem compare_walk (x y:Int) (W:World):Calls Tryz.prog 98 #[.int .i64 x,.int .i64 y] W fun e w'=>e=.returned (.int .i64 (cmpI x y))∧w'=W:=by
 unfold cmpI
 have h1:=fun x W=>nan_walk x W
 go_enter Tryz.func98,Tryz.ntmps98
 by_cases hxy:x<y
 ·rw [if_pos hxy]
  go_wp2_with (go_at_call 155;refine (h1 _ _).mono ?_;rintro e w' ⟨rfl,rfl⟩)
  go_ret
  exact ⟨rfl,rfl⟩
 ·rw [if_neg hxy]
  by_cases hyx:y<x
  ·rw [if_pos hyx]
   go_wp2_with (go_at_call 155;refine (h1 _ _).mono ?_;rintro e w' ⟨rfl,rfl⟩)
   go_ret
   exact ⟨rfl,rfl⟩
  ·rw [if_neg hyx]
   go_wp2_with (go_at_call 155;refine (h1 _ _).mono ?_;rintro e w' ⟨rfl,rfl⟩)
   go_ret
   exact ⟨rfl,rfl⟩
set_option maxHeartbeats 1000000 in
theorem closure_walk (x y:Int × Int) (W:World):Calls Tryz.prog 230 #[.agg #[.int .i64 x.1,.int .i64 x.2],.agg #[.int .i64 y.1,.int .i64 y.2]] W fun e w'=>e=.returned (.int .i64 (cmpS x y))∧∃ q os',w'=grow (W.drewN q) os':=by
 have hcon:=fun W'=>compare_walk x.1 y.1 W'
 unfold cmpS
 generalize cmpI x.1 y.1=r at hcon ⊢
 go_enter Tryz.func230,Tryz.ntmps230
 go_wp2_with (go_at_call 98;refine (hcon _).mono ?_;rintro e w' ⟨rfl,rfl⟩)
 go_ret
 exact ⟨rfl,0,_,by rw [alloc_eq_grow,alloc_eq_grow,grow_grow];rfl⟩
theorem ltO_eq (cf:(Int × Int)→(Int × Int)→Int):ltO cf=ltOf cf:=rfl
theorem conSpan:Bm.CellCon Tryz.prog 229 230 2 sortSF where
 row blk off cap n c d w hF hc hH hblk h0 hn hcap:=by
  unfold sortSF at hF
  cases e:spanD c with
  | none=>rw [e] at hF;cases hF
  | some l =>
   rw [e] at hF;cases hF
   have ec:=spanD_some e
   subst ec
   have hl:l.toArray.size=n:=by
    rw [flat_len] at hc
    simp;omega
   have eg:∀ args w,(callFunc 230 args).run Tryz.prog w=.ok (.enter 230 args) w:=enters_of Tryz.func230 (by kernel_rfl) rfl
   have con:=AnyQ.slices_SortFunc_eq laysSpan 2 Tryz.isAgg234 Tryz.sizeOf234 spanV (fun _=>rfl) (fun x v hv=>by simp [spanV] at hv;rcases hv with rfl | rfl <;> rfl) cmpS (ltO_eq cmpS ▸ swoS) 230 #[] blk off cap l.toArray w eg (fun _ _ _ _ x y=>closure_walk x y _) (by unfold HoldsK;rw [flatK_flat];exact hH) hblk (by rw [hl];exact hn)
   change Calls Tryz.prog 229 _ _ _ at con
   rw [hl] at con
   refine con.mono fun e w' he=>⟨he.1,?_⟩
   obtain ⟨m,os,rfl⟩:=he.2
   refine ⟨m,os,?_⟩
   unfold sortWorldK putRowK
   rw [flatK_flat]
   show _=grow (putRow id (Sort.ahead w m) blk off ((sortS l).flatMap spanV).toArray) os
   unfold sortS
   rw [hl,ltO_eq]
 none p cap w:=AnyF.slices_SortFunc_none laysSpan p cap _ w
 dfd:=⟨_,Tryz.func229,rfl⟩
 len c d h:=by
  unfold sortSF at h
  cases e:spanD c with
  | none=>rw [e] at h;cases h
  | some l =>
   rw [e] at h;cases h
   rw [spanD_some e,flat_len,flat_len,(sortS_perm l).length_eq]
 atoms c d h:=by
  unfold sortSF at h
  cases e:spanD c with
  | none=>rw [e] at h;cases h
  | some l =>
   rw [e] at h;cases h
   have key:∀ l:List (Int × Int),(l.flatMap spanV).all Bm.atom=true:=by
    intro l
    induction l with
    | nil=>rfl
    | cons x l ih=>rw [List.flatMap_cons,List.all_append,ih];rfl
   exact ⟨by rw [spanD_some e];exact key _,key _⟩
 pos:=by decide
end Go.Proofs.YtplebjehcgcdeaaGreatDoor
namespace Go.Proofs.YtplebjehcgcdeaaGreatDoor.Bm
open Go Go.RowKit Go.Lib
theorem iVol:∃ i,Tryz.prog.info? 60=some i∧i.zero=some (.agg #[.int .i64 0,.int .i64 0,.int .i64 0,.int .i64 0,.int .i64 0,.int .i64 0,.int .i64 0,.int .i64 0,.bool false])∧i.size=9∧i.bytes=72:=by
 have h:(Tryz.prog.info? 60).map (fun i=>(i.zero,i.size,i.bytes))=some (some (.agg #[.int .i64 0,.int .i64 0,.int .i64 0,.int .i64 0,.int .i64 0,.int .i64 0,.int .i64 0,.int .i64 0,.bool false]),9,72):=by kernel_rfl
 obtain ⟨i,h1,h2⟩:=Option.map_eq_some_iff.1 h
 simp only [Prod.mk.injEq] at h2
 exact ⟨i,h1,h2.1,h2.2.1,h2.2.2⟩
theorem tVol:Tryz.prog.underlying 52=some (.slice 60):=by kernel_rfl
set_option maxHeartbeats 2000000 in
set_option maxRecDepth 100000 in
theorem clone_zeroVol (a:Addr) (c:Nat) (w:World) :
  Calls Tryz.prog 128 #[.slice (some a) 0 c] w fun e w'=>∃ a' c',e=.returned (.slice (some a') 0 c')∧Below w.heap.size w w':=by
 obtain ⟨i0,hi,hz0,hz1,hz2⟩:=iVol
 have q22:∀ (w:World) (a:Option Addr) (n c n' c':Nat),(binOp .eql 52 (.slice a n c) (.slice none n' c')).run Tryz.prog w=.ok (.bool a.isNone) w:=fun w a n c n' c'=>Lib.run_eql_slice_nil w _ _ a n c n' c' tVol
 have u22:∀ w,Sem.run Tryz.prog (underlying 52) w=.ok (TypeDesc.slice 60) w:=run_underlying tVol
 go_enter Tryz.func128,Tryz.ntmps128
 go_wp2_with (at_builtin;refine wpList_append_own _ rfl _ _ 52 rfl w.heap.size 60 i0 (.agg #[.int .i64 0,.int .i64 0,.int .i64 0,.int .i64 0,.int .i64 0,.int .i64 0,.int .i64 0,.int .i64 0,.bool false]) 9 72 tVol hi hz0 hz1 hz2 rfl (by decide) _ _ _ rfl (World.ownsRow_made w #[] 0 (Nat.le_refl _) (Nat.zero_le _) rfl) a 0 c [] rfl rfl (by intro j u hj;simp at hj) (by intro u hu;cases hu) (by unfold maxLen;omega) (by omega) (by simp) ?_)
 intro v' w1 hown hgrow hnil
 go_wp2
 go_ret
 have hne:v'≠.slice none 0 0:=by first | exact hnil | (intro e;exact absurd (hnil.1 e).1 (by simp))
 have hbel:Below w.heap.size w w1:=((Below.refl _ w).alloc (Nat.le_refl _) _).grown hgrow (by simp) (by intro k hk;simp [Value.ownBlock] at hk;omega)
 rcases hown.2 with ⟨e,_⟩ | ⟨g,cap,cur,e,_⟩
 ·exact absurd e hne
 ·exact ⟨_,cap,by rw [e];rfl,hbel⟩
theorem clone_nilVol (w:World):Calls Tryz.prog 128 #[.slice none 0 0] w fun e w'=>e=.returned (.slice none 0 0)∧w'=w:=by
 have q22:∀ (w:World) (a:Option Addr) (n c n' c':Nat),(binOp .eql 52 (.slice a n c) (.slice none n' c')).run Tryz.prog w=.ok (.bool a.isNone) w:=fun w a n c n' c'=>Lib.run_eql_slice_nil w _ _ a n c n' c' tVol
 go_enter Tryz.func128,Tryz.ntmps128
 go_wp2
 go_ret
 exact ⟨rfl,rfl⟩
theorem conCloVol:CloCon Tryz.prog 128:=⟨⟨_,Tryz.func128,rfl⟩,clone_zeroVol,clone_nilVol⟩
theorem iEnt:∃ i,Tryz.prog.info? 83=some i∧i.zero=some (.agg #[.string ⟨⟨[]⟩⟩,.int .i64 0])∧i.size=2∧i.bytes=24:=by
 have h:(Tryz.prog.info? 83).map (fun i=>(i.zero,i.size,i.bytes))=some (some (.agg #[.string ⟨⟨[]⟩⟩,.int .i64 0]),2,24):=by kernel_rfl
 obtain ⟨i,h1,h2⟩:=Option.map_eq_some_iff.1 h
 simp only [Prod.mk.injEq] at h2
 exact ⟨i,h1,h2.1,h2.2.1,h2.2.2⟩
theorem tEnt:Tryz.prog.underlying 76=some (.slice 83):=by kernel_rfl
set_option maxHeartbeats 2000000 in
set_option maxRecDepth 100000 in
theorem clone_zeroEnt (a:Addr) (c:Nat) (w:World) :
  Calls Tryz.prog 129 #[.slice (some a) 0 c] w fun e w'=>∃ a' c',e=.returned (.slice (some a') 0 c')∧Below w.heap.size w w':=by
 obtain ⟨i0,hi,hz0,hz1,hz2⟩:=iEnt
 have q22:∀ (w:World) (a:Option Addr) (n c n' c':Nat),(binOp .eql 76 (.slice a n c) (.slice none n' c')).run Tryz.prog w=.ok (.bool a.isNone) w:=fun w a n c n' c'=>Lib.run_eql_slice_nil w _ _ a n c n' c' tEnt
 have u22:∀ w,Sem.run Tryz.prog (underlying 76) w=.ok (TypeDesc.slice 83) w:=run_underlying tEnt
 go_enter Tryz.func129,Tryz.ntmps129
 go_wp2_with (at_builtin;refine wpList_append_own _ rfl _ _ 76 rfl w.heap.size 83 i0 (.agg #[.string ⟨⟨[]⟩⟩,.int .i64 0]) 2 24 tEnt hi hz0 hz1 hz2 rfl (by decide) _ _ _ rfl (World.ownsRow_made w #[] 0 (Nat.le_refl _) (Nat.zero_le _) rfl) a 0 c [] rfl rfl (by intro j u hj;simp at hj) (by intro u hu;cases hu) (by unfold maxLen;omega) (by omega) (by simp) ?_)
 intro v' w1 hown hgrow hnil
 go_wp2
 go_ret
 have hne:v'≠.slice none 0 0:=by first | exact hnil | (intro e;exact absurd (hnil.1 e).1 (by simp))
 have hbel:Below w.heap.size w w1:=((Below.refl _ w).alloc (Nat.le_refl _) _).grown hgrow (by simp) (by intro k hk;simp [Value.ownBlock] at hk;omega)
 rcases hown.2 with ⟨e,_⟩ | ⟨g,cap,cur,e,_⟩
 ·exact absurd e hne
 ·exact ⟨_,cap,by rw [e];rfl,hbel⟩
theorem clone_nilEnt (w:World):Calls Tryz.prog 129 #[.slice none 0 0] w fun e w'=>e=.returned (.slice none 0 0)∧w'=w:=by
 have q22:∀ (w:World) (a:Option Addr) (n c n' c':Nat),(binOp .eql 76 (.slice a n c) (.slice none n' c')).run Tryz.prog w=.ok (.bool a.isNone) w:=fun w a n c n' c'=>Lib.run_eql_slice_nil w _ _ a n c n' c' tEnt
 go_enter Tryz.func129,Tryz.ntmps129
 go_wp2
 go_ret
 exact ⟨rfl,rfl⟩
theorem conCloEnt:CloCon Tryz.prog 129:=⟨⟨_,Tryz.func129,rfl⟩,clone_zeroEnt,clone_nilEnt⟩
end Go.Proofs.YtplebjehcgcdeaaGreatDoor.Bm
