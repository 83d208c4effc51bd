/-
 The boundary of a region, as the code collects it: where pieces begin and end. Conditions: none. No program in sight.
-/
import Derived.Test.YtnhdabelepjgbaaGreatQT24
import Derived.Test.YtnhdabelepjgbaaGreatQT21
namespace Go.Proofs.YtnhdabelepjgbaaGreat.Rg
def fwS (s:Sd):Bool:=if upS s=true then decide (s.1.2<s.2.2) else decide (s.1.1<s.2.1)
def onw (s t:Sd):Prop:=upS s=upS t→fwS s=fwS t
def wayS:List Sd→Prop
 | []=>True
 | [_]=>True
 | s :: t :: q=>(s.2=t.1∧onw s t)∧wayS (t :: q)
def aheadS (s:Sd) (v:Pt):Prop:=if upS s=true then v.1=s.1.1∧(if fwS s=true then s.1.2<v.2 else v.2<s.1.2) else v.2=s.1.2∧(if fwS s=true then s.1.1<v.1 else v.1<s.1.1)
def sideP (o:Bool) (a b:Pt):Prop:=if o=true then a.1=b.1∧a.2≠b.2 else a.2=b.2∧a.1≠b.1
theorem ahead_side {s:Sd} {v:Pt} (h:aheadS s v):sideP (upS s) s.1 v:=by
 unfold aheadS at h
 unfold sideP
 by_cases q:upS s=true
 ·rw [if_pos q] at h ⊢
  refine ⟨h.1.symm,?_⟩
  have:=h.2
  split at this <;> omega
 ·rw [if_neg q] at h ⊢
  refine ⟨h.1.symm,?_⟩
  have:=h.2
  split at this <;> omega
theorem st_ahead {s:Sd} (h:stS s):aheadS s s.2:=by
 unfold stS at h
 unfold aheadS fwS
 by_cases q:upS s=true
 ·rw [if_pos q] at h ⊢
  rw [if_pos q]
  have e:s.1.1=s.2.1:=by unfold upS at q;exact of_decide_eq_true q
  refine ⟨e.symm,?_⟩
  by_cases p:s.1.2<s.2.2
  ·rw [decide_eq_true p,if_pos rfl];exact p
  ·rw [decide_eq_false p,if_neg (by decide)];omega
 ·rw [if_neg q] at h ⊢
  rw [if_neg q]
  have e:¬ s.1.1=s.2.1:=by unfold upS at q;simpa using q
  refine ⟨h.symm,?_⟩
  by_cases p:s.1.1<s.2.1
  ·rw [decide_eq_true p,if_pos rfl];exact p
  ·rw [decide_eq_false p,if_neg (by decide)];omega
theorem ahead_trans {s t:Sd} {v:Pt} (hs:stS s) (hst:s.2=t.1) (ho:upS s=upS t) (hf:fwS s=fwS t) (h:aheadS t v):aheadS s v:=by
 have h0:=st_ahead hs
 unfold aheadS at h0 h ⊢
 rw [← ho,← hf,← hst] at h
 by_cases q:upS s=true
 ·rw [if_pos q] at h0 h ⊢
  refine ⟨h.1.trans h0.1,?_⟩
  have h1:=h.2
  have h2:=h0.2
  by_cases p:fwS s=true
  ·rw [if_pos p] at h1 h2 ⊢; omega
  ·rw [if_neg p] at h1 h2 ⊢; omega
 ·rw [if_neg q] at h0 h ⊢
  refine ⟨h.1.trans h0.1,?_⟩
  have h1:=h.2
  have h2:=h0.2
  by_cases p:fwS s=true
  ·rw [if_pos p] at h1 h2 ⊢; omega
  ·rw [if_neg p] at h1 h2 ⊢; omega
def headO (z:Pt):List Pt→Pt
 | []=>z
 | k :: _=>k
def nextP (q:List Sd):Pt:=headO (endS q) (cornI q)
theorem next_ahead:∀ (q:List Sd) (s:Sd),(∀ t∈s :: q,stS t)→wayS (s :: q)→aheadS s (nextP (s :: q))
 | [],s,h,_=>st_ahead (h s (List.mem_cons_self ..))
 | t :: q,s,h,hc=>by
  have ih:=next_ahead q t (fun u hu=>h u (List.mem_cons_of_mem _ hu)) hc.2
  have hs:=h s (List.mem_cons_self ..)
  by_cases e:upS s=upS t
  ·have e2:nextP (s :: t :: q)=nextP (t :: q):=by
    unfold nextP
    rw [show cornI (s :: t :: q)=(if upS s=upS t then [] else [s.2])++cornI (t :: q) from rfl,if_pos e,List.nil_append]
    rfl
   rw [e2]
   exact ahead_trans hs hc.1.1 e (hc.1.2 e) ih
  ·have e2:nextP (s :: t :: q)=s.2:=by
    unfold nextP
    rw [show cornI (s :: t :: q)=(if upS s=upS t then [] else [s.2])++cornI (t :: q) from rfl,if_neg e]
    rfl
   rw [e2]
   exact st_ahead hs
def altP:Bool→Pt→List Pt→Pt→Prop
 | o,a,[],z=>sideP o a z
 | o,a,b :: l,z=>sideP o a b∧altP (!o) b l z
theorem side_merge {s t:Sd} {K:List Pt} {z:Pt} {o:Bool} (h:altP o t.1 K z) (hn:sideP o s.1 (headO z K)):altP o s.1 K z:=by
 cases K with
 | nil=>exact hn
 | cons k K=>exact ⟨hn,h.2⟩
theorem alt_open:∀ (q:List Sd) (s:Sd),(∀ t∈s :: q,stS t)→wayS (s :: q)→altP (upS s) s.1 (cornI (s :: q)) (endS (s :: q))
 | [],s,h,_=>ahead_side (st_ahead (h s (List.mem_cons_self ..)))
 | t :: q,s,h,hc=>by
  have ih:=alt_open q t (fun u hu=>h u (List.mem_cons_of_mem _ hu)) hc.2
  have hn:=ahead_side (next_ahead (t :: q) s h hc)
  have hs:=h s (List.mem_cons_self ..)
  rw [show endS (s :: t :: q)=endS (t :: q) from rfl]
  by_cases e:upS s=upS t
  ·have e2:cornI (s :: t :: q)=cornI (t :: q):=by
    show (if upS s=upS t then [] else [s.2])++_=_
    rw [if_pos e,List.nil_append]
   have hn:sideP (upS s) s.1 (headO (endS (t :: q)) (cornI (s :: t :: q))):=hn
   rw [e2,e] at hn
   rw [e2,e]
   exact side_merge ih hn
  ·have e2:cornI (s :: t :: q)=s.2 :: cornI (t :: q):=by
    show (if upS s=upS t then [] else [s.2])++_=_
    rw [if_neg e];rfl
   rw [e2]
   refine ⟨ahead_side (st_ahead hs),?_⟩
   have e3:(!upS s)=upS t:=by
    cases h1:upS s <;> cases h2:upS t <;> simp_all
   rw [e3,hc.1.1]
   exact ih
theorem last_par:∀ (q:List Sd) (s:Sd),upS (lastS s q)=(upS s != decide ((cornI (s :: q)).length % 2=1))
 | [],s=>by show upS s=(upS s != false);cases upS s <;> rfl
 | t :: q,s=>by
  have ih:=last_par q t
  show upS (lastS t q)=_
  rw [ih,show cornI (s :: t :: q)=(if upS s=upS t then [] else [s.2])++cornI (t :: q) from rfl]
  by_cases e:upS s=upS t
  ·rw [if_pos e,List.nil_append,e]
  ·rw [if_neg e,List.length_append]
   show _=(upS s != decide ((1+(cornI (t :: q)).length) % 2=1))
   have e3:(!upS s)=upS t:=by
    cases h1:upS s <;> cases h2:upS t <;> simp_all
   rw [← e3]
   by_cases p:(cornI (t :: q)).length % 2=1
   ·rw [decide_eq_true p,decide_eq_false (by omega)];cases upS s <;> rfl
   ·rw [decide_eq_false p,decide_eq_true (by omega)];cases upS s <;> rfl
def Rot {α:Type} (p p':List α):Prop:=∃ X Y,p=X++Y∧p'=Y++X
theorem corn_snoc (z s:Sd):∀ (q:List Sd) (t:Sd),corn z ((t :: q)++[s])=corn s (t :: q)++(if upS s=upS z then [] else [s.2])
 | [],t=>rfl
 | u :: q,t=>by
  have ih:=corn_snoc z s q u
  show (if upS t=upS u then [] else [t.2])++corn z ((u :: q)++[s])=((if upS t=upS u then [] else [t.2])++corn s (u :: q))++_
  rw [ih,List.append_assoc]
theorem corners_rot1 (s:Sd) (q:List Sd):∃ X Y,corners (s :: q)=X++Y∧corners (q++[s])=Y++X:=by
 cases q with
 | nil=>exact ⟨corners [s],[],by rw [List.append_nil],by rw [List.nil_append];rfl⟩
 | cons t q =>
  refine ⟨if upS s=upS t then [] else [s.2],corn s (t :: q),rfl,?_⟩
  exact corn_snoc t s q t
theorem Rot.trans1 {α:Type} {p q r:List α} (h1:Rot p q) (h2:Rot q r):Rot p r:=by
 obtain ⟨X,Y,rfl,rfl⟩:=h1
 obtain ⟨U,V,e,rfl⟩:=h2
 rcases List.append_eq_append_iff.1 e with ⟨W,h1,h2⟩ | ⟨W,h1,h2⟩
 ·subst h1;subst h2
  exact ⟨W,V++Y,by simp,by simp⟩
 ·subst h1;subst h2
  exact ⟨X++U,W,by simp,by simp⟩
theorem Rot.refl {α:Type} (p:List α):Rot p p:=⟨p,[],by simp,by simp⟩
theorem Rot.symm {α:Type} {p q:List α} (h:Rot p q):Rot q p:=by
 obtain ⟨X,Y,rfl,rfl⟩:=h
 exact ⟨Y,X,rfl,rfl⟩
structure Ring (q:List Sd):Prop where
 st:∀ t∈q,stS t
 way:wayS q
 back:∀ s t:Sd,q.head?=some s→q.getLast?=some t→t.2=s.1∧onw t s
theorem way_snoc:∀ (q:List Sd) (s:Sd),wayS q→(∀ t,q.getLast?=some t→t.2=s.1∧onw t s)→wayS (q++[s])
 | [],s,_,_=>trivial
 | [t],s,_,h=>⟨h t rfl,trivial⟩
 | t :: u :: q,s,hw,h=>⟨hw.1,way_snoc (u :: q) s hw.2 fun v hv=>h v (by rw [List.getLast?_cons_cons];exact hv)⟩
theorem way_tail {s:Sd} {q:List Sd} (h:wayS (s :: q)):wayS q:=by
 cases q with
 | nil=>trivial
 | cons t q=>exact h.2
theorem Ring.rot1 {s:Sd} {q:List Sd} (h:Ring (s :: q)):Ring (q++[s]):=by
 refine ⟨fun t ht=>h.st t ?_,way_snoc q s (way_tail h.way) fun t ht=>h.back s t rfl ?_,fun a b ha hb=>?_⟩
 ·rcases List.mem_append.1 ht with p | p
  ·exact List.mem_cons_of_mem _ p
  ·rw [List.mem_singleton.1 p];exact List.mem_cons_self ..
 ·cases q with
  | nil=>cases ht
  | cons u q=>rw [List.getLast?_cons_cons];exact ht
 ·rw [List.getLast?_concat] at hb
  cases hb
  cases q with
  | nil=>cases ha;exact h.back s s rfl rfl
  | cons u q=>cases ha;exact h.way.1
theorem Ring.rot:∀ (A B:List Sd),Ring (A++B)→Ring (B++A)∧Rot (corners (A++B)) (corners (B++A))
 | [],B,h=>by rw [List.append_nil];exact ⟨h,.refl _⟩
 | s :: A,B,h=>by
  obtain ⟨X,Y,e1,e2⟩:=corners_rot1 s (A++B)
  have h1:Ring ((A++B)++[s]):=h.rot1
  rw [List.append_assoc] at h1 e2
  obtain ⟨i1,i2⟩:=Ring.rot A (B++[s]) h1
  rw [List.append_assoc] at i1 i2
  exact ⟨i1,Rot.trans1 ⟨X,Y,e1,e2⟩ i2⟩
theorem corn_find (z:Sd):∀ q:List Sd,corn z q≠[]→∃ A s B,q=A++s :: B∧upS s≠upS (B.headD z)
 | [],h=>absurd rfl h
 | [s],h=>by
  have h:(if upS s=upS z then [] else [s.2])≠[]:=h
  by_cases e:upS s=upS z
  ·rw [if_pos e] at h;exact absurd rfl h
  ·exact ⟨[],s,[],rfl,e⟩
 | s :: t :: q,h=>by
  have h:(if upS s=upS t then [] else [s.2])++corn z (t :: q)≠[]:=h
  by_cases e:upS s=upS t
  ·rw [if_pos e,List.nil_append] at h
   obtain ⟨A,u,B,e1,e2⟩:=corn_find z (t :: q) h
   exact ⟨s :: A,u,B,by rw [e1];rfl,e2⟩
  ·exact ⟨[],s,t :: q,rfl,e⟩
theorem last_get:∀ (q:List Sd) (s:Sd),(s :: q).getLast?=some (lastS s q)
 | [],s=>rfl
 | t :: q,s=>by rw [List.getLast?_cons_cons];exact last_get q t
theorem Ring.turns {s:Sd} {q:List Sd} (h:Ring (s :: q)):corners (s :: q)≠[]:=by
 intro h0
 have h0:corn s (s :: q)=[]:=h0
 rw [corn_I,List.append_eq_nil_iff] at h0
 have ha:=next_ahead q s h.st h.way
 unfold nextP at ha
 rw [h0.1,end_last] at ha
 have hb:=(h.back s _ rfl (last_get q s)).1
 have ha:aheadS s (lastS s q).2:=ha
 rw [hb] at ha
 have:=ahead_side ha
 unfold sideP at this
 split at this
 ·exact this.2 rfl
 ·exact this.2 rfl
theorem Ring.poly {s:Sd} {q:List Sd} (h:Ring (s :: q)):∃ (o:Bool) (a:Pt) (K:List Pt),Rot (corners (s :: q)) (a :: K)∧altP o a K a∧K.length % 2=1∧3≤K.length:=by
 obtain ⟨A,t,B,e1,e2⟩:=corn_find s (s :: q) h.turns
 rw [show A++t :: B=(A++[t])++B by simp] at e1
 have hr:=h
 rw [e1] at hr
 obtain ⟨r1,r2⟩:=hr.rot
 rw [← e1] at r2
 -- the way from behind the turn on
 obtain ⟨u,q',eq⟩:∃ u q',B++(A++[t])=u :: q':=by
  cases B with
  | nil=>cases A with
   | nil=>exact ⟨t,[],rfl⟩
   | cons a A=>exact ⟨a,A++[t],rfl⟩
  | cons b B=>exact ⟨b,_,rfl⟩
 have hl:lastS u q'=t:=by
  have h1:=last_get q' u
  rw [← eq,show B++(A++[t])=(B++A)++[t] by simp,List.getLast?_concat] at h1
  exact (Option.some.inj h1).symm
 have hu:upS t≠upS u:=by
  cases B with
  | cons b B => have : b = u := by simpa using (List.cons.inj eq).1
                rw [← this];exact e2
  | nil =>
   have e3:s :: q=u :: q':=by rw [e1,← eq];simp
   have:s=u:=(List.cons.inj e3).1
   rw [← this];exact e2
 rw [eq] at r1 r2
 have hc:corners (u :: q')=cornI (u :: q')++[u.1]:=by
  show corn u (u :: q')=_
  rw [corn_I,hl,if_neg hu]
  have:=(r1.back u t rfl (by rw [last_get,hl])).1
  rw [this]
 have ho:=alt_open q' u r1.st r1.way
 rw [end_last,hl,(r1.back u t rfl (by rw [last_get,hl])).1] at ho
 have hp:=last_par q' u
 rw [hl] at hp
 have hodd:(cornI (u :: q')).length % 2=1:=by
  by_cases p:(cornI (u :: q')).length % 2=1
  ·exact p
  ·rw [decide_eq_false p] at hp
   exact absurd (by rw [hp];cases upS u <;> rfl) hu
 refine ⟨upS u,u.1,cornI (u :: q'),?_,ho,hodd,?_⟩
 ·refine Rot.trans1 r2 ?_
  rw [hc]
  exact ⟨cornI (u :: q'),[u.1],rfl,rfl⟩
 ·generalize cornI (u :: q')=K at ho hodd
  match K,hodd,ho with
  | [k],_,ho =>
   exfalso
   obtain ⟨h1,h2⟩:=ho
   have h2:sideP (!upS u) k u.1:=h2
   unfold sideP at h1 h2
   cases hq:upS u <;> rw [hq] at h1 h2
   ·exact h1.2 h2.1.symm
   ·exact h1.2 h2.1.symm
  | [_,_],hq,_=>simp at hq
  | _ :: _ :: _ :: _,_,_=>simp
end Go.Proofs.YtnhdabelepjgbaaGreat.Rg
namespace Go.Proofs.YtnhdabelepjgbaaGreat.Rg
def sgnI (n:Int):Int:=max (-1) (min 1 n)
def turnI (s t:Sd):Int:=sgnI (s.2.1-s.1.1) * sgnI (t.2.2-t.1.2)-sgnI (s.2.2-s.1.2) * sgnI (t.2.1-t.1.1)
theorem sgn_pos {n:Int} (h:0<n):sgnI n=1:=by unfold sgnI;omega
theorem sgn_neg {n:Int} (h:n<0):sgnI n = -1:=by unfold sgnI;omega
theorem sgn_zero:sgnI 0=0:=by decide
theorem dir_up {s:Sd} (h:stS s) (hu:upS s=true):s.2.1-s.1.1=0∧sgnI (s.2.2-s.1.2)=if fwS s=true then 1 else -1:=by
 unfold stS at h
 rw [if_pos hu] at h
 unfold fwS
 rw [if_pos hu]
 have e:s.1.1=s.2.1:=by unfold upS at hu;exact of_decide_eq_true hu
 refine ⟨by omega,?_⟩
 by_cases p:s.1.2<s.2.2
 ·rw [decide_eq_true p,if_pos rfl];exact sgn_pos (by omega)
 ·rw [decide_eq_false p,if_neg (by decide)];exact sgn_neg (by omega)
theorem dir_ho {s:Sd} (h:stS s) (hu:upS s=false):s.2.2-s.1.2=0∧sgnI (s.2.1-s.1.1)=if fwS s=true then 1 else -1:=by
 have hn:¬ upS s=true:=by rw [hu];decide
 unfold stS at h
 rw [if_neg hn] at h
 unfold fwS
 rw [if_neg hn]
 have e:¬ s.1.1=s.2.1:=by unfold upS at hu;exact of_decide_eq_false hu
 refine ⟨by omega,?_⟩
 by_cases p:s.1.1<s.2.1
 ·rw [decide_eq_true p,if_pos rfl];exact sgn_pos (by omega)
 ·rw [decide_eq_false p,if_neg (by decide)];exact sgn_neg (by omega)
theorem turn_same {s t:Sd} (hs:stS s) (ht:stS t) (h:upS s=upS t):turnI s t=0:=by
 unfold turnI
 cases hu:upS s
 ·have ht2:=(dir_ho ht (h ▸ hu)).1
  have hs2:=(dir_ho hs hu).1
  rw [ht2,hs2,sgn_zero];simp
 ·have ht2:=(dir_up ht (h ▸ hu)).1
  have hs2:=(dir_up hs hu).1
  rw [ht2,hs2,sgn_zero];simp
theorem turn_ho {s t:Sd} (hs:stS s) (ht:stS t) (h1:upS s=false) (h2:upS t=true):turnI s t=if fwS s=fwS t then 1 else -1:=by
 unfold turnI
 rw [(dir_ho hs h1).1,(dir_ho hs h1).2,(dir_up ht h2).1,(dir_up ht h2).2,sgn_zero]
 cases fwS s <;> cases fwS t <;> decide
theorem turn_up {s t:Sd} (hs:stS s) (ht:stS t) (h1:upS s=true) (h2:upS t=false):turnI s t=if fwS s=fwS t then -1 else 1:=by
 unfold turnI
 rw [(dir_up hs h1).1,(dir_up hs h1).2,(dir_ho ht h2).1,(dir_ho ht h2).2,sgn_zero]
 cases fwS s <;> cases fwS t <;> decide
theorem turn_zero {s t:Sd} (hs:stS s) (ht:stS t):turnI s t=0↔upS s=upS t:=by
 constructor
 ·intro h
  cases h1:upS s <;> cases h2:upS t
  ·rfl
  ·rw [turn_ho hs ht h1 h2] at h;split at h <;> omega
  ·rw [turn_up hs ht h1 h2] at h;split at h <;> omega
  ·rfl
 ·exact turn_same hs ht
theorem left_same {s t u:Sd} (hs:stS s) (ht:stS t) (hu:stS u) (h1:0<turnI s t) (h2:0<turnI s u):upS t=upS u∧fwS t=fwS u:=by
 have n1:upS s≠upS t:=fun e=>by rw [turn_same hs ht e] at h1;omega
 have n2:upS s≠upS u:=fun e=>by rw [turn_same hs hu e] at h2;omega
 have e:upS t=upS u:=by cases a:upS s <;> cases b:upS t <;> cases c:upS u <;> simp_all
 refine ⟨e,?_⟩
 cases a:upS s
 ·have b:upS t=true:=by cases q:upS t <;> simp_all
  rw [turn_ho hs ht a b] at h1
  rw [turn_ho hs hu a (e ▸ b)] at h2
  have:fwS s=fwS t:=by
   by_cases q:fwS s=fwS t
   ·exact q
   ·rw [if_neg q] at h1;omega
  have:fwS s=fwS u:=by
   by_cases q:fwS s=fwS u
   ·exact q
   ·rw [if_neg q] at h2;omega
  simp_all
 ·have b:upS t=false:=by cases q:upS t <;> simp_all
  rw [turn_up hs ht a b] at h1
  rw [turn_up hs hu a (e ▸ b)] at h2
  have n3:fwS s≠fwS t:=fun q=>by rw [if_pos q] at h1;omega
  have n4:fwS s≠fwS u:=fun q=>by rw [if_pos q] at h2;omega
  cases x:fwS s <;> cases y:fwS t <;> cases z:fwS u <;> simp_all
theorem left_in {s s' t:Sd} (hs:stS s) (hs':stS s') (ht:stS t) (h1:0<turnI s t) (h2:0<turnI s' t):upS s=upS s'∧fwS s=fwS s':=by
 have n1:upS s≠upS t:=fun e=>by rw [turn_same hs ht e] at h1;omega
 have n2:upS s'≠upS t:=fun e=>by rw [turn_same hs' ht e] at h2;omega
 have e:upS s=upS s':=by cases a:upS s <;> cases b:upS t <;> cases c:upS s' <;> simp_all
 refine ⟨e,?_⟩
 cases a:upS s
 ·have b:upS t=true:=by cases q:upS t <;> simp_all
  rw [turn_ho hs ht a b] at h1
  rw [turn_ho hs' ht (e ▸ a) b] at h2
  have q1:fwS s=fwS t:=by
   by_cases q:fwS s=fwS t
   ·exact q
   ·rw [if_neg q] at h1;omega
  have q2:fwS s'=fwS t:=by
   by_cases q:fwS s'=fwS t
   ·exact q
   ·rw [if_neg q] at h2;omega
  rw [q1,q2]
 ·have b:upS t=false:=by cases q:upS t <;> simp_all
  rw [turn_up hs ht a b] at h1
  rw [turn_up hs' ht (e ▸ a) b] at h2
  have n3:fwS s≠fwS t:=fun q=>by rw [if_pos q] at h1;omega
  have n4:fwS s'≠fwS t:=fun q=>by rw [if_pos q] at h2;omega
  cases x:fwS s <;> cases y:fwS t <;> cases z:fwS s' <;> simp_all
structure Net (l:List Sd):Prop where
 nd:l.Nodup
 st:∀ s∈l,stS s
 out1:∀ s∈l,∀ t∈l,s.1=t.1→upS s=upS t→fwS s=fwS t→s=t
 in1:∀ s∈l,∀ t∈l,s.2=t.2→upS s=upS t→fwS s=fwS t→s=t
 rev:∀ s∈l,∀ t∈l,s.2=t.1→upS s=upS t→fwS s=fwS t
 nxt:∀ s∈l,(∃ t∈l,t.1=s.2∧0<turnI s t)∨((∃ t∈l,t.1=s.2)∧∀ t∈l,∀ t'∈l,t.1=s.2→t'.1=s.2→t=t')
 two:∀ s∈l,∀ s'∈l,s≠s'→s.2=s'.2→∃ t∈l,t.1=s.2∧0<turnI s t
def gtS (l:List Sd) (i:Nat):Sd:=l.getD i ((0,0),(0,0))
theorem gt_get {l:List Sd} {i:Nat} (h:i<l.length):gtS l i=l[i]:=by unfold gtS;simp [h]
theorem gt_mem {l:List Sd} {i:Nat} (h:i<l.length):gtS l i∈l:=by rw [gt_get h];exact List.getElem_mem h
def fromI (l:List Sd) (p:Pt):List Nat:=(List.range l.length).filter fun i=>decide ((gtS l i).1=p)
theorem from_mem {l:List Sd} {p:Pt} {i:Nat}:i∈fromI l p↔i<l.length∧(gtS l i).1=p:=by
 unfold fromI
 rw [List.mem_filter,List.mem_range,decide_eq_true_eq]
def pickI (l:List Sd) (s:Sd) (F:List Nat) (k:Nat):Nat:=F.foldl (fun nx k=>if 0<turnI s (gtS l k) then k else nx) k
def nxI (l:List Sd) (i:Nat):Nat:=pickI l (gtS l i) (fromI l (gtS l i).2) ((fromI l (gtS l i).2).headD 0)
theorem pick_told (l:List Sd) (s:Sd):∀ (F:List Nat) (k:Nat),(pickI l s F k∈F∧0<turnI s (gtS l (pickI l s F k)))∨(pickI l s F k=k∧∀ i∈F,¬ 0<turnI s (gtS l i))
 | [],k=>.inr ⟨rfl,fun i h=>absurd h List.not_mem_nil⟩
 | j :: F,k=>by
  show (pickI l s F (if 0<turnI s (gtS l j) then j else k)∈j :: F∧0<turnI s (gtS l (pickI l s F (if 0<turnI s (gtS l j) then j else k))))∨(pickI l s F (if 0<turnI s (gtS l j) then j else k)=k∧_)
  by_cases h:0<turnI s (gtS l j)
  ·rw [if_pos h]
   rcases pick_told l s F j with ⟨a,b⟩ | ⟨a,b⟩
   ·exact .inl ⟨List.mem_cons_of_mem _ a,b⟩
   ·left;rw [a];exact ⟨List.mem_cons_self ..,h⟩
  ·rw [if_neg h]
   rcases pick_told l s F k with ⟨a,b⟩ | ⟨a,b⟩
   ·exact .inl ⟨List.mem_cons_of_mem _ a,b⟩
   ·refine .inr ⟨a,fun i hi=>?_⟩
    rcases List.mem_cons.1 hi with q | q
    ·rw [q];exact h
    ·exact b i q
theorem mem_gt {l:List Sd} {t:Sd} (h:t∈l):∃ i,i<l.length∧gtS l i=t:=by
 obtain ⟨i,hi,e⟩:=List.getElem_of_mem h
 exact ⟨i,hi,by rw [gt_get hi];exact e⟩
section
variable {l:List Sd} (hl:Net l)
include hl
theorem Net.next {i:Nat} (hi:i<l.length):nxI l i<l.length∧(gtS l (nxI l i)).1=(gtS l i).2∧(0<turnI (gtS l i) (gtS l (nxI l i))∨((∀ t∈l,t.1=(gtS l i).2→¬ 0<turnI (gtS l i) t)∧∀ t∈l,t.1=(gtS l i).2→t=gtS l (nxI l i))):=by
 have hs:=gt_mem hi
 unfold nxI
 generalize gtS l i=s at hs ⊢
 rcases pick_told l s (fromI l s.2) ((fromI l s.2).headD 0) with ⟨a,b⟩ | ⟨a,b⟩
 ·obtain ⟨a1,a2⟩:=from_mem.1 a
  exact ⟨a1,a2,.inl b⟩
 ·rw [a]
  have hno:∀ t∈l,t.1=s.2→¬ 0<turnI s t:=fun t ht h1=>by
   obtain ⟨k,hk,rfl⟩:=mem_gt ht
   exact b k (from_mem.2 ⟨hk,h1⟩)
  rcases hl.nxt s hs with ⟨t,ht,h1,h2⟩ | ⟨⟨t,ht,h1⟩,hu⟩
  ·exact absurd h2 (hno t ht h1)
  ·obtain ⟨k,hk,rfl⟩:=mem_gt ht
   have hm:k∈fromI l s.2:=from_mem.2 ⟨hk,h1⟩
   cases hF:fromI l s.2 with
   | nil=>rw [hF] at hm;cases hm
   | cons j F =>
    have hj:j∈fromI l s.2:=by rw [hF];exact List.mem_cons_self ..
    obtain ⟨j1,j2⟩:=from_mem.1 hj
    show j<l.length∧(gtS l j).1=s.2∧_
    exact ⟨j1,j2,.inr ⟨hno,fun t ht h=>hu t ht _ (gt_mem j1) h j2⟩⟩
theorem gt_inj {i j:Nat} (hi:i<l.length) (hj:j<l.length) (h:gtS l i=gtS l j):i=j:=by
 rw [gt_get hi,gt_get hj] at h
 exact (List.getElem_inj hl.nd).1 h
theorem Net.inj:Inj l.length (nxI l):=by
 refine ⟨fun i hi=>(hl.next hi).1,fun i j hi hj h=>?_⟩
 obtain ⟨a1,a2,a3⟩:=hl.next hi
 obtain ⟨b1,b2,b3⟩:=hl.next hj
 rw [← h] at b2 b3
 have he:(gtS l i).2=(gtS l j).2:=a2.symm.trans b2
 by_cases q:gtS l i=gtS l j
 ·exact gt_inj hl hi hj q
 ·exfalso
  obtain ⟨t,t1,t2,t3⟩:=hl.two _ (gt_mem hi) _ (gt_mem hj) q he
  obtain ⟨u,u1,u2,u3⟩:=hl.two _ (gt_mem hj) _ (gt_mem hi) (fun e=>q e.symm) he.symm
  have c1:0<turnI (gtS l i) (gtS l (nxI l i)):=by
   rcases a3 with p | p
   ·exact p
   ·exact absurd t3 (p.1 t t1 t2)
  have c2:0<turnI (gtS l j) (gtS l (nxI l i)):=by
   rcases b3 with p | p
   ·exact p
   ·exact absurd u3 (p.1 u u1 u2)
  obtain ⟨e1,e2⟩:=left_in (hl.st _ (gt_mem hi)) (hl.st _ (gt_mem hj)) (hl.st _ (gt_mem a1)) c1 c2
  exact q (hl.in1 _ (gt_mem hi) _ (gt_mem hj) he e1 e2)
omit hl in
theorem way_map (f:Nat→Sd):∀ c:List Nat,(∀ (j:Nat) (h:j+1<c.length),(f c[j]).2=(f c[j+1]).1∧onw (f c[j]) (f c[j+1]))→wayS (c.map f)
 | [],_=>trivial
 | [_],_=>trivial
 | a :: b :: c,h=>⟨h 0 (by simp),way_map f (b :: c) fun j hj=>h (j+1) (by simpa using hj)⟩
theorem Net.ring {c:List Nat} (hc:Cyc l.length (nxI l) c):Ring (c.map (gtS l)):=by
 have key:∀ i,i<l.length→(gtS l i).2=(gtS l (nxI l i)).1∧onw (gtS l i) (gtS l (nxI l i)):=fun i hi=>by
  obtain ⟨a1,a2,_⟩:=hl.next hi
  exact ⟨a2.symm,hl.rev _ (gt_mem hi) _ (gt_mem a1) a2.symm⟩
 refine ⟨fun t ht=>?_,way_map _ c fun j hj=>?_,fun s t hs ht=>?_⟩
 ·obtain ⟨i,hi,rfl⟩:=List.mem_map.1 ht
  exact hl.st _ (gt_mem (hc.lt i hi))
 ·rw [hc.step j hj]
  exact key _ (hc.lt _ (List.getElem_mem _))
 ·have h0:0<c.length:=by
   cases c with
   | nil=>cases hs
   | cons a c=>simp
  have e1:s=gtS l c[0]:=by
   rw [List.head?_eq_getElem?,List.getElem?_map,List.getElem?_eq_getElem h0] at hs
   exact (Option.some.inj hs).symm
  have e2:t=gtS l c[c.length-1]:=by
   rw [List.getLast?_eq_getElem?,List.length_map,List.getElem?_map,List.getElem?_eq_getElem (by omega)] at ht
   exact (Option.some.inj ht).symm
  rw [e1,e2,← hc.back h0]
  exact key _ (hc.lt _ (List.getElem_mem _))
end
def cornF (l:List Sd) (c:List Nat):List Pt:=c.flatMap fun i=>if turnI (gtS l i) (gtS l (nxI l i))=0 then [] else [(gtS l i).2]
theorem cornF_eq {l:List Sd} (hl:Net l) {c:List Nat} (hc:Cyc l.length (nxI l) c):cornF l c=corners (c.map (gtS l)):=by
 have key:∀ (c:List Nat) (z:Sd) (h0:0<c.length),(∀ i∈c,i<l.length)→(∀ (j:Nat) (h:j+1<c.length),c[j+1]=nxI l c[j])→gtS l (nxI l c[c.length-1])=z→cornF l c=corn z (c.map (gtS l)):=by
  intro c
  induction c with
  | nil=>intro z h0;exact absurd h0 (by simp)
  | cons a c ih =>
   intro z _ hlt hst hz
   have ha:=hlt a (List.mem_cons_self ..)
   cases c with
   | nil =>
    have hz:gtS l (nxI l a)=z:=hz
    show (if turnI (gtS l a) (gtS l (nxI l a))=0 then [] else [(gtS l a).2])++[]=if upS (gtS l a)=upS z then [] else [(gtS l a).2]
    rw [List.append_nil,hz]
    have hz2:stS z:=by rw [← hz];exact hl.st _ (gt_mem (hl.next ha).1)
    by_cases q:upS (gtS l a)=upS z
    ·rw [if_pos q,if_pos ((turn_zero (hl.st _ (gt_mem ha)) hz2).2 q)]
    ·rw [if_neg q,if_neg (fun p=>q ((turn_zero (hl.st _ (gt_mem ha)) hz2).1 p))]
   | cons b c =>
    have hb:b=nxI l a:=hst 0 (by simp)
    have i1:=ih z (by simp) (fun i hi=>hlt i (List.mem_cons_of_mem _ hi)) (fun j hj=>hst (j+1) (by simpa using hj)) hz
    show (if turnI (gtS l a) (gtS l (nxI l a))=0 then [] else [(gtS l a).2])++cornF l (b :: c)=(if upS (gtS l a)=upS (gtS l b) then [] else [(gtS l a).2])++corn z ((b :: c).map (gtS l))
    rw [i1,hb]
    have hz2:stS (gtS l (nxI l a)):=hl.st _ (gt_mem (hl.next ha).1)
    by_cases q:upS (gtS l a)=upS (gtS l (nxI l a))
    ·rw [if_pos q,if_pos ((turn_zero (hl.st _ (gt_mem ha)) hz2).2 q)]
    ·rw [if_neg q,if_neg (fun p=>q ((turn_zero (hl.st _ (gt_mem ha)) hz2).1 p))]
 cases c with
 | nil=>rfl
 | cons a c=>exact key (a :: c) (gtS l a) (by simp) hc.lt hc.step (by rw [hc.back (by simp)];rfl)
end Go.Proofs.YtnhdabelepjgbaaGreat.Rg
namespace Go.Proofs.YtnhdabelepjgbaaGreat.Rg
def ltPo (a b:Pt):Bool:=decide (a.1<b.1) || (decide (a.1=b.1) && decide (a.2<b.2))
theorem ltP_iff {a b:Pt}:ltPo a b=true↔a.1<b.1∨a.1=b.1∧a.2<b.2:=by
 unfold ltPo
 rw [Bool.or_eq_true,Bool.and_eq_true,decide_eq_true_eq,decide_eq_true_eq,decide_eq_true_eq]
theorem ltP_tri (a b:Pt):ltPo a b=true∨a=b∨ltPo b a=true:=by
 rw [ltP_iff,ltP_iff]
 by_cases h1:a.1=b.1
 ·by_cases h2:a.2=b.2
  ·exact .inr (.inl (Prod.ext h1 h2))
  ·by_cases h3:a.2<b.2
   ·exact .inl (.inr ⟨h1,h3⟩)
   ·exact .inr (.inr (.inr ⟨h1.symm,by omega⟩))
 ·by_cases h3:a.1<b.1
  ·exact .inl (.inl h3)
  ·exact .inr (.inr (.inl (by omega)))
theorem ltP_irr (a:Pt):ltPo a a=false:=by
 unfold ltPo;simp
theorem ltP_trans {a b c:Pt} (h1:ltPo a b=true) (h2:ltPo b c=true):ltPo a c=true:=by
 rw [ltP_iff] at *
 omega
theorem ltP_asym {a b:Pt} (h:ltPo a b=true):ltPo b a=false:=by
 cases q:ltPo b a
 ·rfl
 ·have:=ltP_trans h q
  rw [ltP_irr] at this;cases this
def minP (a:Pt) (l:List Pt):Pt:=l.foldl (fun m x=>if ltPo x m=true then x else m) a
theorem minP_told:∀ (l:List Pt) (a:Pt),(minP a l=a∨minP a l∈l)∧ltPo a (minP a l)=false∧∀ x∈l,ltPo x (minP a l)=false
 | [],a=>⟨.inl rfl,ltP_irr a,fun x h=>absurd h List.not_mem_nil⟩
 | b :: l,a=>by
  show (minP (if ltPo b a=true then b else a) l=a∨minP (if ltPo b a=true then b else a) l∈b :: l)∧ltPo a (minP (if ltPo b a=true then b else a) l)=false∧∀ x∈b :: l,ltPo x (minP (if ltPo b a=true then b else a) l)=false
  by_cases h:ltPo b a=true
  ·rw [if_pos h]
   obtain ⟨i1,i2,i3⟩:=minP_told l b
   refine ⟨.inr ?_,?_,fun x hx=>?_⟩
   ·rcases i1 with q | q
    ·rw [q];exact List.mem_cons_self ..
    ·exact List.mem_cons_of_mem _ q
   ·cases q:ltPo a (minP b l)
    ·rfl
    ·have:=ltP_trans h q
     rw [i2] at this;cases this
   ·rcases List.mem_cons.1 hx with q | q
    ·rw [q];exact i2
    ·exact i3 x q
  ·rw [if_neg h]
   obtain ⟨i1,i2,i3⟩:=minP_told l a
   refine ⟨?_,i2,fun x hx=>?_⟩
   ·rcases i1 with q | q
    ·exact .inl q
    ·exact .inr (List.mem_cons_of_mem _ q)
   ·rcases List.mem_cons.1 hx with q | q
    ·rw [q]
     cases p:ltPo b (minP a l)
     ·rfl
     ·rcases ltP_tri a b with r | r | r
      ·have:=ltP_trans r p
       rw [i2] at this;cases this
      ·rw [← r,i2] at p;cases p
      ·exact absurd r h
    ·exact i3 x q
def rotM:List Pt→List Pt
 | []=>[]
 | a :: l=>(a :: l).drop ((a :: l).idxOf (minP a l))++(a :: l).take ((a :: l).idxOf (minP a l))
theorem rotM_rot (p:List Pt):Rot p (rotM p):=by
 cases p with
 | nil=>exact .refl _
 | cons a l=>exact ⟨_,_,(List.take_append_drop ((a :: l).idxOf (minP a l)) (a :: l)).symm,rfl⟩
theorem Rot.count {p q:List Pt} (h:Rot p q) (x:Pt):p.count x=q.count x:=by
 obtain ⟨X,Y,rfl,rfl⟩:=h
 rw [List.count_append,List.count_append];omega
theorem Rot.mem {α:Type} {p q:List α} (h:Rot p q) (x:α):x∈p↔x∈q:=by
 obtain ⟨X,Y,rfl,rfl⟩:=h
 rw [List.mem_append,List.mem_append]
 exact ⟨fun h=>h.symm,fun h=>h.symm⟩
theorem Rot.len {α:Type} {p q:List α} (h:Rot p q):p.length=q.length:=by
 obtain ⟨X,Y,rfl,rfl⟩:=h
 rw [List.length_append,List.length_append];omega
theorem Rot.csum {p q:List Pt} (h:Rot p q) (φ:Sd→Int):csum φ p=csum φ q:=by
 obtain ⟨X,Y,rfl,rfl⟩:=h
 exact csum_rot φ X Y
theorem rotM_head {p:List Pt} {m:Pt} (hm:m∈p) (hmin:∀ x∈p,ltPo x m=false) (h1:p.count m=1):∃ r,rotM p=m :: r∧∀ x∈r,ltPo m x=true:=by
 cases p with
 | nil=>cases hm
 | cons a l =>
  obtain ⟨i1,i2,i3⟩:=minP_told l a
  have hmem:minP a l∈a :: l:=by
   rcases i1 with q | q
   ·rw [q];exact List.mem_cons_self ..
   ·exact List.mem_cons_of_mem _ q
  have e:minP a l=m:=by
   rcases ltP_tri (minP a l) m with q | q | q
   ·rw [hmin _ hmem] at q;cases q
   ·exact q
   ·rcases List.mem_cons.1 hm with p | p
    ·rw [p,i2] at q;cases q
    ·rw [i3 m p] at q;cases q
  have hr:=rotM_rot (a :: l)
  have hk:(a :: l).idxOf m<(a :: l).length:=List.idxOf_lt_length_of_mem hm
  have hg:(a :: l)[(a :: l).idxOf m]=m:=List.getElem_idxOf hk
  have hd:rotM (a :: l)=m :: ((a :: l).drop ((a :: l).idxOf m+1)++(a :: l).take ((a :: l).idxOf m)):=by
   show (a :: l).drop ((a :: l).idxOf (minP a l))++(a :: l).take ((a :: l).idxOf (minP a l))=_
   rw [e,List.drop_eq_getElem_cons hk,hg];rfl
  refine ⟨_,hd,fun x hx=>?_⟩
  have hc:=hr.count m
  rw [h1,hd,List.count_cons_self] at hc
  have hxm:x≠m:=fun q=>by
   rw [q] at hx
   have:=List.count_pos_iff.2 hx
   omega
  have hxp:x∈a :: l:=(hr.mem x).2 (by rw [hd];exact List.mem_cons_of_mem _ hx)
  rcases ltP_tri x m with q | q | q
  ·rw [hmin x hxp] at q;cases q
  ·exact absurd q hxm
  ·exact q
section
variable {l:List Sd} (hl:Net l)
include hl
def leastI (l:List Sd) (c:List Nat) (i:Nat):Prop:=i∈c∧∀ j∈c,ltPo (gtS l j).2 (gtS l i).2=false
theorem least_arms {c:List Nat} (hc:Cyc l.length (nxI l) c) {i:Nat} (h:leastI l c i):fwS (gtS l i)=false∧fwS (gtS l (nxI l i))=true∧upS (gtS l i)≠upS (gtS l (nxI l i)):=by
 have hi:=hc.lt i h.1
 obtain ⟨n1,n2,_⟩:=hl.next hi
 have hni:nxI l i∈c:=(hc.clo hl.inj i hi).1 h.1
 obtain ⟨k,hk,hki⟩:∃ k,k∈c∧nxI l k=i:=by
  obtain ⟨j,hj,e⟩:=List.getElem_of_mem h.1
  cases j with
  | zero=>exact ⟨_,List.getElem_mem _,by rw [hc.back (by omega)];exact e⟩
  | succ j=>exact ⟨_,List.getElem_mem _,by rw [← hc.step j hj];exact e⟩
 have hs:=hl.st _ (gt_mem hi)
 have ht:=hl.st _ (gt_mem n1)
 have e1:(gtS l i).1=(gtS l k).2:=by
  have:=(hl.next (hc.lt k hk)).2.1
  rw [hki] at this;exact this
 have a1:=h.2 k hk
 rw [← e1] at a1
 have a2:=h.2 _ hni
 rw [← n2] at a2
 have b1:fwS (gtS l i)=false:=by
  cases q:fwS (gtS l i)
  ·rfl
  ·exfalso
   have:ltPo (gtS l i).1 (gtS l i).2=true:=by
    rw [ltP_iff]
    unfold stS at hs
    unfold fwS at q
    by_cases u:upS (gtS l i)=true
    ·rw [if_pos u,decide_eq_true_eq] at q
     unfold upS at u
     exact .inr ⟨of_decide_eq_true u,q⟩
    ·rw [if_neg u,decide_eq_true_eq] at q
     exact .inl q
   rw [a1] at this;cases this
 have b2:fwS (gtS l (nxI l i))=true:=by
  cases q:fwS (gtS l (nxI l i))
  ·exfalso
   have:ltPo (gtS l (nxI l i)).2 (gtS l (nxI l i)).1=true:=by
    rw [ltP_iff]
    unfold stS at ht
    unfold fwS at q
    by_cases u:upS (gtS l (nxI l i))=true
    ·rw [if_pos u,decide_eq_false_iff_not] at q
     rw [if_pos u] at ht
     unfold upS at u
     exact .inr ⟨(of_decide_eq_true u).symm,by omega⟩
    ·rw [if_neg u,decide_eq_false_iff_not] at q
     rw [if_neg u] at ht
     have u2:¬ (gtS l (nxI l i)).1.1=(gtS l (nxI l i)).2.1:=by
      intro z;exact u (decide_eq_true z)
     exact .inl (by omega)
   rw [a2] at this;cases this
  ·rfl
 refine ⟨b1,b2,fun e=>?_⟩
 have:=hl.rev _ (gt_mem hi) _ (gt_mem n1) n2.symm e
 rw [b1,b2] at this;cases this
theorem least_one {c c':List Nat} (hc:Cyc l.length (nxI l) c) (hc':Cyc l.length (nxI l) c') {i j:Nat} (hi:leastI l c i) (hj:leastI l c' j) (he:(gtS l i).2=(gtS l j).2):i=j:=by
 obtain ⟨a1,a2,a3⟩:=least_arms hl hc hi
 obtain ⟨b1,b2,b3⟩:=least_arms hl hc' hj
 have li:=hc.lt i hi.1
 have lj:=hc'.lt j hj.1
 obtain ⟨n1,n2,_⟩:=hl.next li
 by_cases e:upS (gtS l i)=upS (gtS l j)
 ·exact gt_inj hl li lj (hl.in1 _ (gt_mem li) _ (gt_mem lj) he e (a1.trans b1.symm))
 ·exfalso
  have e2:upS (gtS l j)=upS (gtS l (nxI l i)):=by
   cases x:upS (gtS l i) <;> cases y:upS (gtS l j) <;> cases z:upS (gtS l (nxI l i)) <;> simp_all
  have:=hl.rev _ (gt_mem lj) _ (gt_mem n1) (he.symm.trans n2.symm) e2
  rw [b1,a2] at this;cases this
omit hl in
theorem least_ex:∀ {c:List Nat},c≠[]→∃ i,leastI l c i
 | [a],_=>⟨a,List.mem_cons_self ..,fun j hj=>by rw [List.mem_singleton.1 hj];exact ltP_irr _⟩
 | a :: b :: c,_=>by
  obtain ⟨i,h1,h2⟩:=least_ex (c:=b :: c) (by simp)
  by_cases q:ltPo (gtS l a).2 (gtS l i).2=true
  ·refine ⟨a,List.mem_cons_self ..,fun j hj=>?_⟩
   rcases List.mem_cons.1 hj with p | p
   ·rw [p];exact ltP_irr _
   ·cases x:ltPo (gtS l j).2 (gtS l a).2
    ·rfl
    ·have:=ltP_trans x q
     rw [h2 j p] at this;cases this
  ·refine ⟨i,List.mem_cons_of_mem _ h1,fun j hj=>?_⟩
   rcases List.mem_cons.1 hj with p | p
   ·rw [p];simpa using q
   ·exact h2 j p
omit hl in
theorem cornF_mem {c:List Nat} {x:Pt}:x∈cornF l c↔∃ i∈c,turnI (gtS l i) (gtS l (nxI l i))≠0∧x=(gtS l i).2:=by
 unfold cornF
 rw [List.mem_flatMap]
 constructor
 ·rintro ⟨i,hi,h⟩
  by_cases q:turnI (gtS l i) (gtS l (nxI l i))=0
  ·rw [if_pos q] at h;cases h
  ·rw [if_neg q,List.mem_singleton] at h
   exact ⟨i,hi,q,h⟩
 ·rintro ⟨i,hi,h,rfl⟩
  exact ⟨i,hi,by rw [if_neg h];exact List.mem_singleton.2 rfl⟩
omit hl in
theorem cornF_count (x:Pt) (i:Nat):∀ c:List Nat,c.Nodup→(∀ j∈c,turnI (gtS l j) (gtS l (nxI l j))≠0→(gtS l j).2=x→j=i)→(cornF l c).count x≤if i∈c then 1 else 0
 | [],_,_=>Nat.zero_le _
 | a :: c,hn,h=>by
  rw [List.nodup_cons] at hn
  have ih:=cornF_count x i c hn.2 fun j hj=>h j (List.mem_cons_of_mem _ hj)
  show ((if turnI (gtS l a) (gtS l (nxI l a))=0 then [] else [(gtS l a).2])++cornF l c).count x≤_
  rw [List.count_append]
  by_cases q:turnI (gtS l a) (gtS l (nxI l a))=0
  ·rw [if_pos q,List.count_nil,Nat.zero_add]
   refine Nat.le_trans ih ?_
   by_cases p:i∈c
   ·rw [if_pos p,if_pos (List.mem_cons_of_mem _ p)];exact Nat.le_refl _
   ·rw [if_neg p];exact Nat.zero_le _
  ·rw [if_neg q]
   by_cases p:(gtS l a).2=x
   ·have ha:=h a (List.mem_cons_self ..) q p
    subst ha
    rw [if_neg hn.1] at ih
    rw [if_pos (List.mem_cons_self ..)]
    have:[(gtS l a).2].count x≤1:=List.count_le_length
    omega
   ·have:[(gtS l a).2].count x=0:=List.count_eq_zero.2 fun z=>p (List.mem_singleton.1 z).symm
    rw [this,Nat.zero_add]
    refine Nat.le_trans ih ?_
    by_cases p2:i∈c
    ·rw [if_pos p2,if_pos (List.mem_cons_of_mem _ p2)];exact Nat.le_refl _
    ·rw [if_neg p2];exact Nat.zero_le _
theorem loop_head {c:List Nat} (hc:Cyc l.length (nxI l) c) {i:Nat} (hi:leastI l c i):∃ r,rotM (cornF l c)=(gtS l i).2 :: r∧∀ x∈r,ltPo (gtS l i).2 x=true:=by
 obtain ⟨a1,a2,a3⟩:=least_arms hl hc hi
 have li:=hc.lt i hi.1
 have ht:turnI (gtS l i) (gtS l (nxI l i))≠0:=fun q=>a3 ((turn_zero (hl.st _ (gt_mem li)) (hl.st _ (gt_mem (hl.next li).1))).1 q)
 have hm:(gtS l i).2∈cornF l c:=cornF_mem.2 ⟨i,hi.1,ht,rfl⟩
 refine rotM_head hm (fun x hx=>?_) ?_
 ·obtain ⟨j,hj,_,rfl⟩:=cornF_mem.1 hx
  exact hi.2 j hj
 ·have h1:=cornF_count (l:=l) (gtS l i).2 i c hc.nd fun j hj _ he=>by
   have hj':leastI l c j:=⟨hj,fun k hk=>by rw [he];exact hi.2 k hk⟩
   exact least_one hl hc hc hj' hi he
  rw [if_pos hi.1] at h1
  have h2:=List.count_pos_iff.2 hm
  omega
end
def waysL (l:List Sd):List (List Nat):=waysF (nxI l) l.length l.length 0 (List.replicate l.length false)
def loopsL (l:List Sd):List (List Pt):=((waysL l).map fun c=>rotM (cornF l c)).filter fun p=>!p.isEmpty
theorem ways_net {l:List Sd} (hl:Net l):(∀ c∈waysL l,Cyc l.length (nxI l) c)∧(waysL l).flatten.Nodup∧∀ j,j<l.length→j∈(waysL l).flatten:=by
 have hf:∀ j,j<l.length→(List.replicate l.length false)[j]?=some false:=fun j hj=>by rw [List.getElem?_replicate,if_pos hj]
 obtain ⟨h1,h2,h3⟩:=ways_told hl.inj l.length 0 (List.replicate l.length false) (by omega) ⟨List.length_replicate,fun i hi=>by
  rw [hf i hi,hf _ (hl.inj.lt i hi)]⟩ fun j hj=>absurd hj (Nat.not_lt_zero _)
 exact ⟨h1,h2,fun j hj=>(h3 j hj).2 (hf j hj)⟩
structure Loop (p:List Pt):Prop where
 len:4≤p.length
 even:p.length % 2=0
 side:∀ s∈sidesP p,decide (s.1.1=s.2.1)≠decide (s.1.2=s.2.2)
 least:∃ m r,p=m :: r∧∀ x∈r,ltPo m x=true
def badS (s:Sd):Int:=if decide (s.1.1=s.2.1)=decide (s.1.2=s.2.2) then 1 else 0
theorem bad_side {o:Bool} {a b:Pt} (h:sideP o a b):badS (a,b)=0:=by
 unfold sideP at h
 unfold badS
 cases o
 ·have h:a.2=b.2∧a.1≠b.1:=h
  simp only [h.1,h.2]
  decide
 ·have h:a.1=b.1∧a.2≠b.2:=h
  simp only [h.1,h.2]
  decide
theorem bad_alt:∀ (K:List Pt) (o:Bool) (a z:Pt),altP o a K z→psum badS a K z=0
 | [],o,a,z,h=>bad_side h
 | k :: K,o,a,z,h=>by
  show badS (a,k)+psum badS k K z=0
  rw [bad_side h.1,bad_alt K (!o) k z h.2];rfl
theorem sum_zero:∀ {L:List Int},(∀ x∈L,0≤x)→L.sum=0→∀ x∈L,x=0
 | [],_,_,x,h=>absurd h List.not_mem_nil
 | a :: L,h0,hs,x,hx=>by
  rw [List.sum_cons] at hs
  have ha:=h0 a (List.mem_cons_self ..)
  have hL:0≤L.sum:=by
   have:∀ M:List Int,(∀ x∈M,0≤x)→0≤M.sum:=by
    intro M
    induction M with
    | nil=>exact fun _=>Int.le_refl _
    | cons b M ih =>
     intro h
     have h1:=h b (List.mem_cons_self ..)
     have h2:=ih fun y hy=>h y (List.mem_cons_of_mem _ hy)
     rw [List.sum_cons];omega
   exact this L fun y hy=>h0 y (List.mem_cons_of_mem _ hy)
  rcases List.mem_cons.1 hx with q | q
  ·rw [q];omega
  ·exact sum_zero (fun y hy=>h0 y (List.mem_cons_of_mem _ hy)) (by omega) x q
theorem poly_loop {p:List Pt} {o:Bool} {a:Pt} {K:List Pt} (hr:Rot p (a :: K)) (ha:altP o a K a) (h1:K.length % 2=1) (h3:3≤K.length):4≤p.length∧p.length % 2=0∧∀ s∈sidesP p,decide (s.1.1=s.2.1)≠decide (s.1.2=s.2.2):=by
 have hlen:=hr.len
 rw [List.length_cons] at hlen
 refine ⟨by omega,by omega,fun s hs he=>?_⟩
 have hc:=hr.csum badS
 rw [show csum badS (a :: K)=psum badS a K a from rfl,bad_alt K o a a ha,csum_sides] at hc
 have:=sum_zero (L:=(sidesP p).map badS) (fun x hx=>by
  obtain ⟨t,_,rfl⟩:=List.mem_map.1 hx
  unfold badS;split <;> omega) hc (badS s) (List.mem_map_of_mem hs)
 unfold badS at this
 rw [if_pos he] at this
 omega
section
variable {l:List Sd} (hl:Net l)
include hl
theorem loop_told {c:List Nat} (hc:Cyc l.length (nxI l) c) (h0:c≠[]):Loop (rotM (cornF l c)):=by
 have hr:=hl.ring hc
 have he:=cornF_eq hl hc
 obtain ⟨i,hi⟩:=least_ex (l:=l) h0
 obtain ⟨r,e1,e2⟩:=loop_head hl hc hi
 cases c with
 | nil=>exact absurd rfl h0
 | cons a c =>
  obtain ⟨o,b,K,k1,k2,k3,k4⟩:=hr.poly
  have k1:Rot (corners ((a :: c).map (gtS l))) (b :: K):=k1
  rw [← he] at k1
  obtain ⟨q1,q2,q3⟩:=poly_loop ((rotM_rot _).symm.trans1 k1) k2 k3 k4
  exact ⟨q1,q2,q3,_,r,e1,e2⟩
theorem loops_ok:∀ p∈loopsL l,Loop p:=by
 intro p hp
 unfold loopsL at hp
 obtain ⟨h1,h2⟩:=List.mem_filter.1 hp
 obtain ⟨c,hc,rfl⟩:=List.mem_map.1 h1
 refine loop_told hl ((ways_net hl).1 c hc) fun q=>?_
 rw [q] at h2
 exact absurd h2 (by simp [cornF,rotM])
theorem loops_heads:((loopsL l).map fun p=>p.headD (0,0)).Nodup:=by
 obtain ⟨h1,h2,_⟩:=ways_net hl
 unfold loopsL
 have key:∀ W:List (List Nat),(∀ c∈W,Cyc l.length (nxI l) c)→W.flatten.Nodup→(((W.map fun c=>rotM (cornF l c)).filter fun p=>!p.isEmpty).map fun p=>p.headD (0,0)).Nodup:=by
  intro W
  induction W with
  | nil=>exact fun _ _=>List.nodup_nil
  | cons c W ih =>
   intro h hn
   rw [List.flatten_cons,List.nodup_append] at hn
   have ih:=ih (fun d hd=>h d (List.mem_cons_of_mem _ hd)) hn.2.1
   rw [List.map_cons]
   by_cases hc0:c=[]
   ·rw [List.filter_cons_of_neg (by rw [hc0];simp [cornF,rotM])]
    exact ih
   ·have hc:=h c (List.mem_cons_self ..)
    obtain ⟨i,hi⟩:=least_ex (l:=l) hc0
    obtain ⟨r,e1,_⟩:=loop_head hl hc hi
    rw [List.filter_cons_of_pos (by rw [e1];simp),List.map_cons,List.nodup_cons]
    refine ⟨fun hm=>?_,ih⟩
    obtain ⟨p,hp,he⟩:=List.mem_map.1 hm
    obtain ⟨hp1,hp2⟩:=List.mem_filter.1 hp
    obtain ⟨d,hd,rfl⟩:=List.mem_map.1 hp1
    have hd0:d≠[]:=fun q=>by rw [q] at hp2;exact absurd hp2 (by simp [cornF,rotM])
    have hdc:=h d (List.mem_cons_of_mem _ hd)
    obtain ⟨j,hj⟩:=least_ex (l:=l) hd0
    obtain ⟨r',e2,_⟩:=loop_head hl hdc hj
    rw [e1,e2] at he
    have he:(gtS l j).2=(gtS l i).2:=he
    have:=least_one hl hc hdc hi hj he.symm
    rw [this] at hi
    exact hn.2.2 j hi.1 j (List.mem_flatten.2 ⟨d,hd,hj.1⟩) rfl
 exact key _ h1 h2
end
end Go.Proofs.YtnhdabelepjgbaaGreat.Rg
namespace Go.Proofs.YtnhdabelepjgbaaGreat.Rg
structure Apart (a:List Rect):Prop where
 pos:∀ r∈a,r.x0<r.x1∧r.y0<r.y1
 two:∀ r∈a,∀ s∈a,r.x1≤s.x0∨s.x1≤r.x0∨(r.x0=s.x0∧r.x1=s.x1∧(r=s∨r.y1<s.y0∨s.y1<r.y0))
 nd:a.Nodup
theorem canS_ge:∀ {l:List (Int × Int)} {b:Int},canS b l→∀ s∈l,b<s.1
 | [],_,_,s,h=>absurd h List.not_mem_nil
 | (f,t) :: l,b,h,s,hs=>by
  obtain ⟨h1,h2,h3⟩:=h
  rcases List.mem_cons.1 hs with q | q
  ·rw [q];exact h1
  ·have:=canS_ge h3 s q
   have h2:f<t:=h2
   omega
theorem canS_two:∀ {l:List (Int × Int)} {b:Int},canS b l→l.Pairwise fun s u=>s.2<u.1
 | [],_,_=>.nil
 | (f,t) :: l,b,h=>List.pairwise_cons.2 ⟨fun u hu=>canS_ge h.2.2 u hu,canS_two h.2.2⟩
theorem Can.two {l:List (Int × Int)} (h:Can l):l.Pairwise (fun s u=>s.2<u.1):=by
 cases l with
 | nil=>exact .nil
 | cons s l =>
  obtain ⟨f,t⟩:=s
  exact canS_two (b:=f-1) (canS_ex h (f-1) fun u hu=>by
   rcases List.mem_cons.1 hu with q | q
   ·rw [q];show f-1<f;omega
   ·have:=canS_ge h.2 u q
    have h1:f<t:=h.1
    omega)
theorem pair_mem {α:Type} {R:α→α→Prop}:∀ {l:List α},l.Pairwise R→∀ a∈l,∀ b∈l,a=b∨R a b∨R b a
 | [],_,a,ha,_,_=>absurd ha List.not_mem_nil
 | c :: l,h,a,ha,b,hb=>by
  rw [List.pairwise_cons] at h
  rcases List.mem_cons.1 ha with p | p
  ·rcases List.mem_cons.1 hb with q | q
   ·exact .inl (p.trans q.symm)
   ·rw [p];exact .inr (.inl (h.1 b q))
  ·rcases List.mem_cons.1 hb with q | q
   ·rw [q];exact .inr (.inr (h.1 a p))
   ·exact pair_mem h.2 a p b q
theorem slabs_apart:∀ {T:List Slab} {b:Int} {c:List (Int × Int)},canT b c T→Apart (outT T)∧∀ r∈outT T,b≤r.x0
 | [],_,_,_=>⟨⟨fun r h=>absurd h List.not_mem_nil,fun r h=>absurd h List.not_mem_nil,List.nodup_nil⟩,fun r h=>absurd h List.not_mem_nil⟩
 | s :: T,b,c,h=>by
  obtain ⟨h1,h2,h3,h4,h5,h6⟩:=h
  obtain ⟨i1,i2⟩:=slabs_apart h6
  have he:∀ r∈emit s,r.x0=s.x0∧r.x1=s.x1∧(r.y0,r.y1)∈s.col∧r.y0<r.y1:=fun r hr=>by
   obtain ⟨u,hu,rfl⟩:=List.mem_map.1 hr
   exact ⟨rfl,rfl,hu,h4.all u hu⟩
  have hO:outT (s :: T)=emit s++outT T:=rfl
  rw [hO]
  refine ⟨⟨fun r hr=>?_,fun r hr t ht=>?_,?_⟩,fun r hr=>?_⟩
  ·rcases List.mem_append.1 hr with q | q
   ·obtain ⟨a1,a2,_,a4⟩:=he r q
    exact ⟨by omega,a4⟩
   ·exact i1.pos r q
  ·rcases List.mem_append.1 hr with q | q
   ·obtain ⟨a1,a2,a3,a4⟩:=he r q
    rcases List.mem_append.1 ht with p | p
    ·obtain ⟨b1,b2,b3,b4⟩:=he t p
     refine .inr (.inr ⟨by omega,by omega,?_⟩)
     rcases pair_mem h4.two _ a3 _ b3 with e | e | e
     ·left
      obtain ⟨r0,r1,r2,r3⟩:=r
      obtain ⟨t0,t1,t2,t3⟩:=t
      simp only [Prod.mk.injEq] at e a1 a2 b1 b2
      obtain ⟨e1,e2⟩:=e
      subst e1;subst e2;subst a1;subst a2;subst b1;subst b2
      rfl
     ·exact .inr (.inl e)
     ·exact .inr (.inr e)
    ·have:=i2 t p
     exact .inl (by omega)
   ·rcases List.mem_append.1 ht with p | p
    ·obtain ⟨b1,b2,_,_⟩:=he t p
     have:=i2 r q
     exact .inr (.inl (by omega))
    ·exact i1.two r q t p
  ·rw [List.nodup_append]
   refine ⟨?_,i1.nd,fun r hr t ht hrt=>?_⟩
   ·unfold emit List.Nodup
    rw [List.pairwise_map]
    refine h4.two.imp_of_mem ?_
    intro u v hu hv huv e
    have:u.1=v.1:=congrArg Rect.y0 e
    have:=h4.all u hu
    omega
   ·obtain ⟨a1,a2,_,_⟩:=he r hr
    have:=i2 t ht
    rw [← hrt] at this
    omega
  ·rcases List.mem_append.1 hr with q | q
   ·have:=(he r q).1
    omega
   ·have:=i2 r q
    omega
theorem Form.apart {a:List Rect} (h:Form a):Apart a:=by
 obtain ⟨b,T,h1,rfl⟩:=h
 exact (slabs_apart h1).1
def botR (r:Rect):Sd:=((r.x0,r.y0),(r.x1,r.y0))
def topR (r:Rect):Sd:=((r.x1,r.y1),(r.x0,r.y1))
def bdH (a:List Rect):List Sd:=a.flatMap fun r=>[botR r,topR r]
def xsB (a:List Rect):List Int:=sortU (a.flatMap fun r=>[r.x0,r.x1])
def endsX (a:List Rect) (x:Int):List Rect:=a.filter fun r=>decide (r.x1=x)
def begsX (a:List Rect) (x:Int):List Rect:=a.filter fun r=>decide (r.x0=x)
def inY (L:List Rect) (y:Int):Bool:=L.any fun r=>decide (r.y0≤y) && decide (y<r.y1)
def ysB (L R:List Rect):List Int:=sortU ((L++R).flatMap fun r=>[r.y0,r.y1])
def upL (x:Int) (L R:List Rect):List Int→List Sd
 | u :: v :: ys=>(if (inY L u && !inY R u)=true then [((x,u),(x,v))] else if (inY R u && !inY L u)=true then [((x,v),(x,u))] else [])++upL x L R (v :: ys)
 | _=>[]
def colX (a:List Rect) (x:Int):List Sd:=upL x (endsX a x) (begsX a x) (ysB (endsX a x) (begsX a x))
def bdL (a:List Rect):List Sd:=bdH a++(xsB a).flatMap (colX a)
theorem xs_mem {a:List Rect} {x:Int}:x∈xsB a↔∃ r∈a,x=r.x0∨x=r.x1:=by
 unfold xsB
 rw [sortU_mem,List.mem_flatMap]
 simp
theorem ys_mem {L R:List Rect} {y:Int}:y∈ysB L R↔∃ r,(r∈L∨r∈R)∧(y=r.y0∨y=r.y1):=by
 unfold ysB
 rw [sortU_mem,List.mem_flatMap]
 simp
section
variable {a:List Rect} (ha:Apart a)
include ha
theorem no_cross {x:Int} (hx:x∈xsB a) {r:Rect} (hr:r∈a):¬ (r.x0<x∧x<r.x1):=by
 obtain ⟨s,hs,h⟩:=xs_mem.1 hx
 have h1:=ha.two r hr s hs
 have h2:=ha.pos s hs
 rintro ⟨h3,h4⟩
 rcases h with h | h <;> rcases h1 with q | q | ⟨q1,q2,_⟩ <;> omega
theorem left_in_cell {x:Int} (hx:x∈xsB a) (y:Int):inY (endsX a x) y=cell a (x-1) y:=by
 rw [Bool.eq_iff_iff,cell_true]
 unfold inY endsX
 rw [List.any_eq_true]
 constructor
 ·rintro ⟨r,hr,h⟩
  obtain ⟨h1,h2⟩:=List.mem_filter.1 hr
  rw [decide_eq_true_eq] at h2
  rw [Bool.and_eq_true,decide_eq_true_eq,decide_eq_true_eq] at h
  have:=ha.pos r h1
  exact ⟨r,h1,by omega,by omega,h.1,h.2⟩
 ·rintro ⟨r,hr,h1,h2,h3,h4⟩
  have:=no_cross ha hx hr
  exact ⟨r,List.mem_filter.2 ⟨hr,by rw [decide_eq_true_eq];omega⟩,by rw [Bool.and_eq_true,decide_eq_true_eq,decide_eq_true_eq];exact ⟨h3,h4⟩⟩
theorem right_in_cell {x:Int} (hx:x∈xsB a) (y:Int):inY (begsX a x) y=cell a x y:=by
 rw [Bool.eq_iff_iff,cell_true]
 unfold inY begsX
 rw [List.any_eq_true]
 constructor
 ·rintro ⟨r,hr,h⟩
  obtain ⟨h1,h2⟩:=List.mem_filter.1 hr
  rw [decide_eq_true_eq] at h2
  rw [Bool.and_eq_true,decide_eq_true_eq,decide_eq_true_eq] at h
  have:=ha.pos r h1
  exact ⟨r,h1,by omega,by omega,h.1,h.2⟩
 ·rintro ⟨r,hr,h1,h2,h3,h4⟩
  have:=no_cross ha hx hr
  exact ⟨r,List.mem_filter.2 ⟨hr,by rw [decide_eq_true_eq];omega⟩,by rw [Bool.and_eq_true,decide_eq_true_eq,decide_eq_true_eq];exact ⟨h3,h4⟩⟩
theorem bot_at {x y:Int} (hx:x∈xsB a):(∃ r∈a,r.x0=x∧r.y0=y)↔cell a x y=true∧cell a x (y-1)=false:=by
 constructor
 ·rintro ⟨r,hr,rfl,rfl⟩
  have hp:=ha.pos r hr
  refine ⟨cell_true.2 ⟨r,hr,by omega,by omega,by omega,by omega⟩,Bool.eq_false_iff.2 fun h=>?_⟩
  obtain ⟨s,hs,s1,s2,s3,s4⟩:=cell_true.1 h
  rcases ha.two r hr s hs with q | q | ⟨_,_,q | q | q⟩
  ·omega
  ·omega
  ·rw [q] at s3;omega
  ·omega
  ·omega
 ·rintro ⟨h1,h2⟩
  obtain ⟨r,hr,r1,r2,r3,r4⟩:=cell_true.1 h1
  have:=no_cross ha hx hr
  refine ⟨r,hr,by omega,?_⟩
  by_cases q:r.y0=y
  ·exact q
  ·have:cell a x (y-1)=true:=cell_true.2 ⟨r,hr,r1,r2,by omega,by omega⟩
   rw [h2] at this;cases this
theorem top_at {x y:Int} (hx:x∈xsB a):(∃ r∈a,r.x0=x∧r.y1=y)↔cell a x (y-1)=true∧cell a x y=false:=by
 constructor
 ·rintro ⟨r,hr,rfl,rfl⟩
  have hp:=ha.pos r hr
  refine ⟨cell_true.2 ⟨r,hr,by omega,by omega,by omega,by omega⟩,Bool.eq_false_iff.2 fun h=>?_⟩
  obtain ⟨s,hs,s1,s2,s3,s4⟩:=cell_true.1 h
  rcases ha.two r hr s hs with q | q | ⟨_,_,q | q | q⟩
  ·omega
  ·omega
  ·rw [q] at s4;omega
  ·omega
  ·omega
 ·rintro ⟨h1,h2⟩
  obtain ⟨r,hr,r1,r2,r3,r4⟩:=cell_true.1 h1
  have:=no_cross ha hx hr
  refine ⟨r,hr,by omega,?_⟩
  by_cases q:r.y1=y
  ·exact q
  ·have:cell a x y=true:=cell_true.2 ⟨r,hr,r1,r2,by omega,by omega⟩
   rw [h2] at this;cases this
theorem botE_at {x y:Int} (hx:x∈xsB a):(∃ r∈a,r.x1=x∧r.y0=y)↔cell a (x-1) y=true∧cell a (x-1) (y-1)=false:=by
 constructor
 ·rintro ⟨r,hr,rfl,rfl⟩
  have hp:=ha.pos r hr
  refine ⟨cell_true.2 ⟨r,hr,by omega,by omega,by omega,by omega⟩,Bool.eq_false_iff.2 fun h=>?_⟩
  obtain ⟨s,hs,s1,s2,s3,s4⟩:=cell_true.1 h
  rcases ha.two r hr s hs with q | q | ⟨_,_,q | q | q⟩
  ·omega
  ·omega
  ·rw [q] at s3;omega
  ·omega
  ·omega
 ·rintro ⟨h1,h2⟩
  obtain ⟨r,hr,r1,r2,r3,r4⟩:=cell_true.1 h1
  have:=no_cross ha hx hr
  refine ⟨r,hr,by omega,?_⟩
  by_cases q:r.y0=y
  ·exact q
  ·have:cell a (x-1) (y-1)=true:=cell_true.2 ⟨r,hr,r1,r2,by omega,by omega⟩
   rw [h2] at this;cases this
theorem topE_at {x y:Int} (hx:x∈xsB a):(∃ r∈a,r.x1=x∧r.y1=y)↔cell a (x-1) (y-1)=true∧cell a (x-1) y=false:=by
 constructor
 ·rintro ⟨r,hr,rfl,rfl⟩
  have hp:=ha.pos r hr
  refine ⟨cell_true.2 ⟨r,hr,by omega,by omega,by omega,by omega⟩,Bool.eq_false_iff.2 fun h=>?_⟩
  obtain ⟨s,hs,s1,s2,s3,s4⟩:=cell_true.1 h
  rcases ha.two r hr s hs with q | q | ⟨_,_,q | q | q⟩
  ·omega
  ·omega
  ·rw [q] at s4;omega
  ·omega
  ·omega
 ·rintro ⟨h1,h2⟩
  obtain ⟨r,hr,r1,r2,r3,r4⟩:=cell_true.1 h1
  have:=no_cross ha hx hr
  refine ⟨r,hr,by omega,?_⟩
  by_cases q:r.y1=y
  ·exact q
  ·have:cell a (x-1) y=true:=cell_true.2 ⟨r,hr,r1,r2,by omega,by omega⟩
   rw [h2] at this;cases this
end
end Go.Proofs.YtnhdabelepjgbaaGreat.Rg
