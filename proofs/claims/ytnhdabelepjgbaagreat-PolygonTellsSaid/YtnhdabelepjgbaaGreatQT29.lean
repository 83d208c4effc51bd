/-
 The reference of polygons, plain: when corners are right, and the edges over a column. Conditions: none. No program in sight.
-/
import Derived.Test.YtnhdabelepjgbaaGreatQT28
import Derived.Test.YtnhdabelepjgbaaGreatQT22
namespace Go.Proofs.YtnhdabelepjgbaaGreat.Rg
def pth (f:Nat→Nat):Nat→List Nat→Nat→Prop
 | a,[],z=>a=z
 | a,b :: l,z=>a=b∧pth f (f b) l z
theorem pth_app {f:Nat→Nat}:∀ {l m:List Nat} {a z:Nat},pth f a (l++m) z↔∃ y,pth f a l y∧pth f y m z
 | [],m,a,z=>⟨fun h=>⟨a,rfl,h⟩,fun ⟨y,h1,h2⟩=>by
   have h1:a=y:=h1
   subst h1;exact h2⟩
 | b :: l,m,a,z=>by
  show (a=b∧pth f (f b) (l++m) z)↔∃ y,(a=b∧pth f (f b) l y)∧pth f y m z
  rw [pth_app]
  constructor
  ·rintro ⟨h,y,h1,h2⟩;exact ⟨y,⟨h,h1⟩,h2⟩
  ·rintro ⟨y,⟨h,h1⟩,h2⟩;exact ⟨h,y,h1,h2⟩
theorem pth_of {f:Nat→Nat}:∀ (l:List Nat) (a:Nat),(∀ (j:Nat) (h:j+1<(a :: l).length),(a :: l)[j+1]=f (a :: l)[j])→pth f a (a :: l) (f ((a :: l)[(a :: l).length-1]'(by simp)))
 | [],a,_=>⟨rfl,rfl⟩
 | b :: l,a,h=>by
  have h0:b=f a:=h 0 (by simp)
  have ih:=pth_of l b fun j hj=>h (j+1) (by simpa using hj)
  refine ⟨rfl,?_⟩
  rw [← h0]
  exact ih
theorem Cyc.path {n:Nat} {f:Nat→Nat} {a:Nat} {l:List Nat} (h:Cyc n f (a :: l)):pth f a (a :: l) a:=by
 have:=pth_of l a h.step
 rw [h.back (by simp)] at this
 exact this
theorem pth_cmp {f:Nat→Nat}:∀ (c c':List Nat) (a y y':Nat),pth f a c y→pth f a c' y'→(∃ d,c'=c++d∧pth f y d y')∨(∃ d,c=c'++d∧pth f y' d y)
 | [],c',a,y,y',h1,h2=>by
  have h1:a=y:=h1
  subst h1;exact .inl ⟨c',rfl,h2⟩
 | b :: c,[],a,y,y',h1,h2=>by
  have h2:a=y':=h2
  subst h2;exact .inr ⟨b :: c,rfl,h1⟩
 | b :: c,b' :: c',a,y,y',h1,h2=>by
  obtain ⟨e1,h1⟩:=h1
  obtain ⟨e2,h2⟩:=h2
  subst e1;subst e2
  rcases pth_cmp c c' _ y y' h1 h2 with ⟨d,e,h⟩ | ⟨d,e,h⟩
  ·exact .inl ⟨d,by rw [e];rfl,h⟩
  ·exact .inr ⟨d,by rw [e];rfl,h⟩
theorem pth_two {f:Nat→Nat} {t:Nat} {c c':List Nat} (h1:pth f t c t) (h2:pth f t c' t) (n1:c.Nodup) (n2:c'.Nodup) (e1:c≠[]) (e2:c'≠[]):c=c':=by
 have hd:∀ {c:List Nat},pth f t c t→c≠[]→t∈c:=fun {c} h e=>by
  cases c with
  | nil=>exact absurd rfl e
  | cons b c =>
   have h:t=b∧_:=h
   rw [h.1];exact List.mem_cons_self ..
 rcases pth_cmp c c' t t t h1 h2 with ⟨d,e,h⟩ | ⟨d,e,h⟩
 ·by_cases q:d=[]
  ·rw [e,q,List.append_nil]
  ·exfalso
   rw [e,List.nodup_append] at n2
   exact n2.2.2 t (hd h1 e1) t (hd h q) rfl
 ·by_cases q:d=[]
  ·rw [e,q,List.append_nil]
  ·exfalso
   rw [e,List.nodup_append] at n1
   exact n1.2.2 t (hd h2 e2) t (hd h q) rfl
theorem pth_turn {f:Nat→Nat} {a t:Nat} {c:List Nat} (h:pth f a c a) (ht:t∈c):∃ d,Rot c d∧pth f t d t∧t∈d:=by
 obtain ⟨X,Y,rfl⟩:=List.append_of_mem ht
 obtain ⟨y,h1,h2⟩:=pth_app.1 h
 have e:y=t:=h2.1
 subst e
 exact ⟨(y :: Y)++X,⟨X,y :: Y,rfl,rfl⟩,pth_app.2 ⟨a,h2,h1⟩,by simp⟩
theorem Rot.nodup {c d:List Nat} (h:Rot c d) (hc:c.Nodup):d.Nodup:=by
 obtain ⟨X,Y,rfl,rfl⟩:=h
 exact (List.perm_append_comm.nodup_iff).1 hc
theorem cyc_same {f:Nat→Nat} {a a' t:Nat} {c c':List Nat} (h1:pth f a c a) (h2:pth f a' c' a') (n1:c.Nodup) (n2:c'.Nodup) (t1:t∈c) (t2:t∈c'):Rot c c':=by
 obtain ⟨d,r1,p1,m1⟩:=pth_turn h1 t1
 obtain ⟨d',r2,p2,m2⟩:=pth_turn h2 t2
 have:d=d':=pth_two p1 p2 (r1.nodup n1) (r2.nodup n2) (List.ne_nil_of_mem m1) (List.ne_nil_of_mem m2)
 subst this
 exact r1.trans1 r2.symm
theorem rot_head {m:Pt} {r r':List Pt} (h:Rot (m :: r) (m :: r')) (hc:(m :: r).count m=1):r=r':=by
 obtain ⟨X,Y,e1,e2⟩:=h
 cases X with
 | nil =>
  rw [List.append_nil] at e2
  rw [List.nil_append] at e1
  rw [← e1] at e2
  exact (List.cons.inj e2).2.symm
 | cons x X =>
  cases Y with
  | nil =>
   rw [List.append_nil] at e1
   rw [List.nil_append] at e2
   rw [← e1] at e2
   exact (List.cons.inj e2).2.symm
  | cons y Y =>
   exfalso
   have h1:m=x:=(List.cons.inj e1).1
   have h2:m=y:=(List.cons.inj e2).1
   rw [e1,List.count_append,← h1,← h2,List.count_cons_self,List.count_cons_self] at hc
   omega
theorem rotM_rot_eq {p q:List Pt} (h:Rot p q) {m:Pt} {r:List Pt} (hp:rotM p=m :: r) (hr:∀ x∈r,ltPo m x=true):rotM q=m :: r:=by
 have h1:=rotM_rot p
 rw [hp] at h1
 have hmr:m ∉ r:=fun q=>by
  have:=hr m q
  rw [ltP_irr] at this;cases this
 have c1:(m :: r).count m=1:=by rw [List.count_cons_self,List.count_eq_zero.2 hmr]
 have hq:Rot q (m :: r):=h.symm.trans1 h1
 obtain ⟨r',e,_⟩:=rotM_head (p:=q) (m:=m) ((hq.mem m).2 (List.mem_cons_self ..)) (fun x hx=>by
  rcases List.mem_cons.1 ((hq.mem x).1 hx) with e | e
  ·rw [e];exact ltP_irr m
  ·exact ltP_asym (hr x e)) (by rw [hq.count,c1])
 have h2:=rotM_rot q
 rw [e] at h2
 rw [e,rot_head (hq.symm.trans1 h2) c1]
theorem corn_app (l:List Sd) (X Y:List Nat):cornF l (X++Y)=cornF l X++cornF l Y:=List.flatMap_append
theorem Rot.corn {l:List Sd} {c d:List Nat} (h:Rot c d):Rot (cornF l c) (cornF l d):=by
 obtain ⟨X,Y,rfl,rfl⟩:=h
 exact ⟨cornF l X,cornF l Y,corn_app l X Y,corn_app l Y X⟩
theorem rotM_way {l:List Sd} (hl:Net l) {v w:List Nat} (hv:Cyc l.length (nxI l) v) (h0:v≠[]) (h:Rot v w):rotM (cornF l v)=rotM (cornF l w):=by
 obtain ⟨i,hi⟩:=least_ex (l:=l) h0
 obtain ⟨r,e1,e2⟩:=loop_head hl hv hi
 rw [e1,rotM_rot_eq h.corn e1 e2]
theorem loops_mem {l:List Sd} {p:List Pt}:p∈loopsL l↔p≠[]∧∃ w∈waysL l,rotM (cornF l w)=p:=by
 unfold loopsL
 rw [List.mem_filter,List.mem_map]
 cases p <;> simp
theorem cornF_nil (l:List Sd):cornF l []=[]:=rfl
theorem loops_ref {l l':List Sd} (hl:Net l) (hl':Net l') (h:Nat→Nat) (Q:Nat→Nat→Prop)
  (run:∀ i,i<l.length→∃ r,pth (nxI l') (h i) r (h (nxI l i))∧r≠[]∧r.Nodup∧(∀ k∈r,k<l'.length∧Q i k)∧cornF l' r=cornF l [i])
  (hQ:∀ i j k,i<l.length→j<l.length→Q i k→Q j k→i=j)
  (back:∀ v∈waysL l',cornF l' v≠[]→∃ i,i<l.length∧h i∈v):∀ p,p∈loopsL l↔p∈loopsL l':=by
 obtain ⟨a1,a2,a3⟩:=ways_net hl
 obtain ⟨b1,b2,b3⟩:=ways_net hl'
 -- a way of the coarse net,in the fine one
 have fine:∀ w:List Nat,(∀ i∈w,i<l.length)→w.Nodup→∀ a z,pth (nxI l) a w z→∃ w',pth (nxI l') (h a) w' (h z)∧w'.Nodup∧(∀ k∈w',k<l'.length∧∃ i∈w,Q i k)∧cornF l' w'=cornF l w∧(w≠[]→w'≠[]):=by
  intro w
  induction w with
  | nil =>
   intro _ _ a z hp
   have hp:a=z:=hp
   exact ⟨[],congrArg h hp,List.nodup_nil,fun k hk=>absurd hk List.not_mem_nil,rfl,fun q=>absurd rfl q⟩
  | cons b w ih =>
   intro hw hn a z hp
   obtain ⟨e,hp⟩:=hp
   subst e
   rw [List.nodup_cons] at hn
   have hb:=hw a (List.mem_cons_self ..)
   obtain ⟨r,r1,r2,r3,r4,r5⟩:=run a hb
   obtain ⟨w',q1,q2,q3,q4,q5⟩:=ih (fun i hi=>hw i (List.mem_cons_of_mem _ hi)) hn.2 _ _ hp
   refine ⟨r++w',pth_app.2 ⟨_,r1,q1⟩,?_,fun k hk=>?_,?_,fun _ q=>r2 (List.append_eq_nil_iff.1 q).1⟩
   ·rw [List.nodup_append]
    refine ⟨r3,q2,fun k hk k' hk' e=>?_⟩
    subst e
    obtain ⟨_,i,hi,qi⟩:=q3 k hk'
    have:=hQ a i k hb (hw i (List.mem_cons_of_mem _ hi)) (r4 k hk).2 qi
    rw [this] at hn
    exact hn.1 hi
   ·rcases List.mem_append.1 hk with q | q
    ·exact ⟨(r4 k q).1,a,List.mem_cons_self ..,(r4 k q).2⟩
    ·obtain ⟨x,i,hi,qi⟩:=q3 k q
     exact ⟨x,i,List.mem_cons_of_mem _ hi,qi⟩
   ·rw [corn_app,r5,q4,← corn_app];rfl
 have inway:∀ k,k<l'.length→∃ v∈waysL l',k∈v:=fun k hk=>List.mem_flatten.1 (b3 k hk)
 -- a way of the coarse net and one of the fine net that share a number
 have both:∀ w∈waysL l,∀ w',pth (nxI l') (h (w.headD 0)) w' (h (w.headD 0))→w'.Nodup→cornF l' w'=cornF l w→∀ v∈waysL l',∀ t,t∈v→t∈w'→rotM (cornF l' v)=rotM (cornF l w):=by
  intro w hw w' h1 h2 h3 v hv t t1 t2
  have hvn:v≠[]:=List.ne_nil_of_mem t1
  have hc:=b1 v hv
  cases v with
  | nil=>exact absurd rfl hvn
  | cons x v =>
   have hr:=cyc_same hc.path h1 hc.nd h2 t1 t2
   rw [rotM_way hl' hc hvn hr,h3]
 intro p
 rw [loops_mem,loops_mem]
 constructor
 ·rintro ⟨hp,w,hw,e⟩
  have hw0:w≠[]:=fun q=>by rw [q,cornF_nil] at e;exact hp e.symm
  have hc:=a1 w hw
  obtain ⟨b,w2,rfl⟩:∃ b w2,w=b :: w2:=by cases w with | nil=>exact absurd rfl hw0 | cons b w2=>exact ⟨b,w2,rfl⟩
  obtain ⟨w',p1,p2,p3,p4,p5⟩:=fine _ hc.lt hc.nd _ _ hc.path
  obtain ⟨t,ht⟩:=List.exists_mem_of_ne_nil _ (p5 hw0)
  obtain ⟨v,hv,tv⟩:=inway t (p3 t ht).1
  exact ⟨hp,v,hv,(both _ hw w' p1 p2 p4 v hv t tv ht).trans e⟩
 ·rintro ⟨hp,v,hv,e⟩
  have hcv:cornF l' v≠[]:=fun q=>by rw [q] at e;exact hp e.symm
  obtain ⟨i,hi,hiv⟩:=back v hv hcv
  obtain ⟨w,hw,hiw⟩:=List.mem_flatten.1 (a3 i hi)
  have hc:=a1 w hw
  obtain ⟨b,w2,rfl⟩:∃ b w2,w=b :: w2:=by cases w with | nil=>cases hiw | cons b w2=>exact ⟨b,w2,rfl⟩
  -- the way from i on
  obtain ⟨X,Y,eX⟩:=List.append_of_mem hiw
  have hpath:=hc.path
  have hlt:=hc.lt
  have hnd:=hc.nd
  rw [eX] at hpath hlt hnd
  obtain ⟨y,y1,y2⟩:=pth_app.1 hpath
  have ey:y=i:=y2.1
  subst ey
  have hlX:∀ k∈X,k<l.length:=fun k hk=>hlt k (List.mem_append_left _ hk)
  have hlY:∀ k∈y :: Y,k<l.length:=fun k hk=>hlt k (List.mem_append_right _ hk)
  rw [List.nodup_append] at hnd
  obtain ⟨wX,x1,x2,x3,x4,x5⟩:=fine X hlX hnd.1 _ _ y1
  obtain ⟨wY,z1,z2,z3,z4,z5⟩:=fine (y :: Y) hlY hnd.2.1 _ _ y2
  have hcr:cornF l' (wX++wY)=cornF l (b :: w2):=by rw [corn_app,x4,z4,← corn_app,← eX]
  have hnn:(wX++wY).Nodup:=by
   rw [List.nodup_append]
   refine ⟨x2,z2,fun k hk k' hk' e=>?_⟩
   subst e
   obtain ⟨_,i1,hi1,q1⟩:=x3 k hk
   obtain ⟨_,i2,hi2,q2⟩:=z3 k hk'
   exact hnd.2.2 i1 hi1 i2 hi2 (hQ i1 i2 k (hlX i1 hi1) (hlY i2 hi2) q1 q2)
  have hmem:h y∈wX++wY:=by
   refine List.mem_append_right _ ?_
   have hne:=z5 (by simp)
   cases wY with
   | nil=>exact absurd rfl hne
   | cons c wY=>rw [z1.1];exact List.mem_cons_self ..
  exact ⟨hp,b :: w2,hw,(both _ hw (wX++wY) (pth_app.2 ⟨_,x1,z1⟩) hnn hcr v hv _ hiv hmem).symm.trans e⟩
theorem ascR_ext {α:Type} {R:α→α→Prop} (irr:∀ a,¬ R a a) (asy:∀ a b,R a b→¬ R b a):∀ {l m:List α},l.Pairwise R→m.Pairwise R→(∀ x,x∈l↔x∈m)→l=m
 | [],[],_,_,_=>rfl
 | [],b :: m,_,_,h=>absurd ((h b).2 (List.mem_cons_self ..)) List.not_mem_nil
 | a :: l,[],_,_,h=>absurd ((h a).1 (List.mem_cons_self ..)) List.not_mem_nil
 | a :: l,b :: m,hl,hm,h=>by
  rw [List.pairwise_cons] at hl hm
  have e:a=b:=by
   rcases List.mem_cons.1 ((h a).1 (List.mem_cons_self ..)) with q | q
   ·exact q
   ·rcases List.mem_cons.1 ((h b).2 (List.mem_cons_self ..)) with p | p
    ·exact p.symm
    ·exact absurd (hm.1 a q) (asy _ _ (hl.1 b p))
  subst e
  congr 1
  refine ascR_ext irr asy hl.2 hm.2 fun x=>⟨fun q=>?_,fun q=>?_⟩
  ·rcases List.mem_cons.1 ((h x).1 (List.mem_cons_of_mem _ q)) with p | p
   ·rw [p] at q;exact absurd (hl.1 a q) (irr a)
   ·exact p
  ·rcases List.mem_cons.1 ((h x).2 (List.mem_cons_of_mem _ q)) with p | p
   ·rw [p] at q;exact absurd (hm.1 a q) (irr a)
   ·exact p
end Go.Proofs.YtnhdabelepjgbaaGreat.Rg
namespace Go.Proofs.YtnhdabelepjgbaaGreat.Rg
theorem turn_dir {s t s' t':Sd} (h1:stS s) (h2:stS t) (h1':stS s') (h2':stS t') (a:upS s=upS s') (b:fwS s=fwS s') (c:upS t=upS t') (d:fwS t=fwS t'):turnI s t=turnI s' t':=by
 by_cases q:upS s=upS t
 ·rw [turn_same h1 h2 q,turn_same h1' h2' (by rw [← a,← c];exact q)]
 ·cases hs:upS s
  ·have ht:upS t=true:=by cases r:upS t <;> simp_all
   rw [turn_ho h1 h2 hs ht,turn_ho h1' h2' (a ▸ hs) (c ▸ ht),b,d]
  ·have ht:upS t=false:=by cases r:upS t <;> simp_all
   rw [turn_up h1 h2 hs ht,turn_up h1' h2' (a ▸ hs) (c ▸ ht),b,d]
def insS (s t:Sd):Prop:=upS t=upS s∧fwS t=fwS s∧(upS s=true→t.1.1=s.1.1∧min s.1.2 s.2.2≤min t.1.2 t.2.2∧min t.1.2 t.2.2<max s.1.2 s.2.2)∧(upS s=false→t=s)
theorem q_int:∀ A o f:Bool,qOut (!A) (!A) A A o f=true→o=true∧f=A:=by decide
section
variable {a:List Rect} (ha:Apart a)
include ha
section
variable {Y:Int→List Int} (hY:Cuts a Y)
include hY
theorem col_all {x u v:Int} (hx:x∈xsB a) (h:adjL (Y x) u v) {z:Int} (h1:u≤z) (h2:z<v):cell a (x-1) z=cell a (x-1) u∧cell a x z=cell a x u:=by
 rw [← left_in_cell ha hx,← left_in_cell ha hx,← right_in_cell ha hx,← right_in_cell ha hx]
 have key:∀ L:List Rect,(∀ r∈L,r.y0∈Y x∧r.y1∈Y x)→inY L z=inY L u:=fun L hL=>any_ext fun r hr=>by
  obtain ⟨k1,k2⟩:=hL r hr
  have k1:=adj_btw (hY.asc x) h k1
  have k2:=adj_btw (hY.asc x) h k2
  rw [Bool.eq_iff_iff,Bool.and_eq_true,Bool.and_eq_true,decide_eq_true_eq,decide_eq_true_eq,decide_eq_true_eq,decide_eq_true_eq]
  omega
 constructor
 ·refine key _ fun r hr=>?_
  obtain ⟨k1,k2⟩:=List.mem_filter.1 hr
  rw [decide_eq_true_eq] at k2
  exact hY.full r k1 (.inl k2)
 ·refine key _ fun r hr=>?_
  obtain ⟨k1,k2⟩:=List.mem_filter.1 hr
  rw [decide_eq_true_eq] at k2
  exact hY.full r k1 (.inr k2)
theorem bdy_start {s:Sd} (h:s∈bdY Y a):s.1.1∈xsB a∧s.1.2∈Y s.1.1:=by
 rcases (bdy_mem ha hY).1 h with ⟨r,hr,rfl⟩ | ⟨r,hr,rfl⟩ | ⟨x,hx,u,v,h1,rfl,h2,h3⟩ | ⟨x,hx,u,v,h1,rfl,h2,h3⟩
 ·exact ⟨xs0 hr,(hY.full r hr (.inr rfl)).1⟩
 ·exact ⟨xs1 hr,(hY.full r hr (.inl rfl)).2⟩
 ·exact ⟨hx,(adj_mem h1).1⟩
 ·exact ⟨hx,(adj_mem h1).2⟩
theorem bdy_up {s:Sd} (h:s∈bdY Y a) (hu:upS s=true):∃ x u v A,x∈xsB a∧adjL (Y x) u v∧fwS s=A∧cell a (x-1) u=A∧cell a x u = !A∧s=if A=true then ((x,u),(x,v)) else ((x,v),(x,u)):=by
 rcases (bdy_mem ha hY).1 h with ⟨r,hr,rfl⟩ | ⟨r,hr,rfl⟩ | ⟨x,hx,u,v,h1,rfl,h2,h3⟩ | ⟨x,hx,u,v,h1,rfl,h2,h3⟩
 ·rw [(bot_kind ha hr).1] at hu;cases hu
 ·rw [(top_kind ha hr).1] at hu;cases hu
 ·exact ⟨x,u,v,true,hx,h1,(up_kind (adj_lt (hY.asc x) h1)).2.1,h2,h3,rfl⟩
 ·exact ⟨x,u,v,false,hx,h1,(down_kind (adj_lt (hY.asc x) h1)).2.1,h3,h2,rfl⟩
theorem bdy_ho {s:Sd} (h:s∈bdY Y a) (hu:upS s=false):s∈bdH a:=by
 have _:=ha
 rcases List.mem_append.1 h with q | q
 ·exact q
 ·obtain ⟨x,hx,q⟩:=List.mem_flatMap.1 q
  obtain ⟨u,v,k,k2⟩:=up_mem.1 q
  have hlt:=adj_lt (hY.asc x) k
  rcases k2 with ⟨e,_⟩ | ⟨e,_⟩ <;> rw [e] at hu
  ·rw [(up_kind hlt).1] at hu;cases hu
  ·rw [(down_kind hlt).1] at hu;cases hu
end
variable {Y Z:Int→List Int} (hY:Cuts a Y) (hZ:Cuts a Z) (hYZ:∀ x y,y∈Y x→y∈Z x)
include hY hZ hYZ
theorem ho_both {s:Sd} (h:s∈bdH a):s∈bdY Y a∧s∈bdY Z a:=by
 have _:=ha;have _:=hY;have _:=hZ;have _:=hYZ
 exact ⟨List.mem_append_left _ h,List.mem_append_left _ h⟩
theorem fine_hd {s:Sd} (h:s∈bdY Y a):∃ t∈bdY Z a,t.1=s.1∧upS t=upS s∧fwS t=fwS s:=by
 obtain ⟨h1,h2⟩:=bdy_start ha hY h
 exact outy_ex ha hZ h1 (hYZ _ _ h2) (bdy_told ha hY h).2.2
theorem fine_end {s t s2 u n:Sd} (hs:s∈bdY Y a) (ht:t∈bdY Z a) (hs2:s2∈bdY Y a) (hu:u∈bdY Z a) (hn:n∈bdY Z a) (e1:t.2=s.2) (e2:upS t=upS s) (e3:fwS t=fwS s)
  (k1:s2.1=s.2) (k2:0<turnI s s2∨((∀ t∈bdY Y a,t.1=s.2→¬ 0<turnI s t)∧∀ t∈bdY Y a,t.1=s.2→t=s2))
  (u1:u.1=s2.1) (u2:upS u=upS s2) (u3:fwS u=fwS s2)
  (n1:n.1=t.2) (n2:0<turnI t n∨((∀ q∈bdY Z a,q.1=t.2→¬ 0<turnI t q)∧∀ q∈bdY Z a,q.1=t.2→q=n)):n=u∧turnI t u=turnI s s2:=by
 have _:=hYZ
 have st:=(bdy_told ha hZ ht).1
 have ss:=(bdy_told ha hY hs).1
 have su:=(bdy_told ha hZ hu).1
 have ss2:=(bdy_told ha hY hs2).1
 have sn:=(bdy_told ha hZ hn).1
 have et:turnI t u=turnI s s2:=turn_dir st su ss ss2 e2 e3 u2 u3
 refine ⟨?_,et⟩
 have hu0:u.1=t.2:=by rw [u1,k1,e1]
 rcases k2 with k2 | ⟨_,k3⟩
 ·rw [← et] at k2
  rcases n2 with n2 | ⟨n3,_⟩
  ·obtain ⟨d1,d2⟩:=left_same st sn su n2 k2
   exact bdy_uni ha hZ hn hu (.inl (n1.trans hu0.symm)) d1 d2
  ·exact absurd k2 (n3 u hu hu0)
 ·obtain ⟨_,⟨_,x1,x2⟩,_⟩:=bdy_told ha hY hs
  have qo:=(bdy_told ha hZ hn).2.2
  rw [n1,e1] at qo
  obtain ⟨s3,m1,m2,m3,m4⟩:=outy_ex ha hY x1 x2 qo
  have e:=k3 s3 m1 m2
  rw [e] at m3 m4
  exact bdy_uni ha hZ hn hu (.inl (n1.trans hu0.symm)) (by rw [u2,m3]) (by rw [u3,m4])
theorem fine_int {s t n:Sd} (hs:s∈bdY Y a) (ht:t∈bdY Z a) (hn:n∈bdY Z a) (hup:upS s=true) (hi:insS s t) (hne:t.2≠s.2) (n1:n.1=t.2) :
  insS s n∧turnI t n=0∧(s.2.2-n.1.2).natAbs<(s.2.2-t.1.2).natAbs:=by
 obtain ⟨i1,i2,i3,_⟩:=hi
 obtain ⟨i3,i4,i5⟩:=i3 hup
 obtain ⟨x,u,v,A,hx,had,fa,c1,c2,rfl⟩:=bdy_up ha hY hs hup
 obtain ⟨x',p,q,A',hx',had',fa',c1',c2',rfl⟩:=bdy_up ha hZ ht (i1.trans hup)
 have hA:A'=A:=by rw [← fa',← fa];exact i2
 subst hA
 have huv:=adj_lt (hY.asc x) had
 have hpq:=adj_lt (hZ.asc x') had'
 have ex:x'=x:=by cases A' <;> exact i3
 subst ex
 have hp:u≤p∧p<v:=by cases A' <;> simp only [if_true,Bool.false_eq_true,if_false] at i4 i5 <;> omega
 have hv:=adj_btw (hZ.asc x') had' (hYZ _ _ (adj_mem had).2)
 have hu:=adj_btw (hZ.asc x') had' (hYZ _ _ (adj_mem had).1)
 have qo:=(bdy_told ha hZ hn).2.2
 have sn:=(bdy_told ha hZ hn).1
 -- the point between
 obtain ⟨y,hy,hy1,hy2⟩:∃ y,n.1=(x',y)∧u<y∧y<v:=by
  cases A'
  ·simp only [Bool.false_eq_true,if_false] at n1 hne
   have:p≠u:=fun e=>hne (by rw [e])
   exact ⟨p,n1,by omega,by omega⟩
  ·simp only [if_true] at n1 hne
   have:q≠v:=fun e=>hne (by rw [e])
   exact ⟨q,n1,by omega,by omega⟩
 obtain ⟨a1,a2⟩:=col_all ha hY hx had (z:=y) (by omega) (by omega)
 obtain ⟨b1,b2⟩:=col_all ha hY hx had (z:=y-1) (by omega) (by omega)
 rw [hy,qOut_iff] at qo
 simp only at qo
 rw [a1,a2,b1,b2,c1,c2] at qo
 obtain ⟨o1,o2⟩:=q_int A' _ _ qo
 obtain ⟨x2,p2,q2,A2,hx2,had2,fa2,_,_,rfl⟩:=bdy_up ha hZ hn o1
 have hA2:A2=A':=by rw [← fa2];exact o2
 subst hA2
 have hpq2:=adj_lt (hZ.asc x2) had2
 have e2:x2=x':=by
  cases A2
  ·exact congrArg Prod.fst hy
  ·exact congrArg Prod.fst hy
 subst e2
 have st:=(bdy_told ha hZ ht).1
 have hv2:=adj_btw (hZ.asc x2) had2 (hYZ _ _ (adj_mem had).2)
 have hu2:=adj_btw (hZ.asc x2) had2 (hYZ _ _ (adj_mem had).1)
 refine ⟨⟨o1.trans hup.symm,o2.trans fa.symm,fun _=>?_,fun q=>by rw [hup] at q;cases q⟩,turn_same st sn (by rw [i1,hup,o1]),?_⟩
 ·cases A2
  ·simp only [Bool.false_eq_true,if_false,Prod.mk.injEq,true_and] at hy ⊢
   refine ⟨?_,?_⟩ <;> omega
  ·simp only [if_true,Prod.mk.injEq,true_and] at hy ⊢
   refine ⟨?_,?_⟩ <;> omega
 ·cases A2
  ·simp only [Bool.false_eq_true,if_false,Prod.mk.injEq,true_and] at hy n1 ⊢
   omega
  ·simp only [if_true,Prod.mk.injEq,true_and] at hy n1 ⊢
   omega
theorem ins_uni {s s' t:Sd} (hs:s∈bdY Y a) (hs':s'∈bdY Y a) (h:insS s t) (h':insS s' t):s=s':=by
 have _:=hZ;have _:=hYZ
 obtain ⟨i1,i2,i3,i4⟩:=h
 obtain ⟨j1,j2,j3,j4⟩:=h'
 cases hu:upS s
 ·have hu':upS s'=false:=by rw [← j1,i1,hu]
  rw [← i4 hu,← j4 hu']
 ·have hu':upS s'=true:=by rw [← j1,i1,hu]
  obtain ⟨i3,i5,i6⟩:=i3 hu
  obtain ⟨j3,j5,j6⟩:=j3 hu'
  obtain ⟨x,u,v,A,hx,had,fa,c1,c2,rfl⟩:=bdy_up ha hY hs hu
  obtain ⟨x',u',v',A',hx',had',fa',c1',c2',rfl⟩:=bdy_up ha hY hs' hu'
  have hA:A'=A:=by rw [← fa',← fa,← i2,j2]
  subst hA
  have e:x'=x:=by cases A' <;> exact j3.symm.trans i3
  subst e
  have huv:=adj_lt (hY.asc x') had
  have huv':=adj_lt (hY.asc x') had'
  have b1:=adj_btw (hY.asc x') had (adj_mem had').1
  have b2:=adj_btw (hY.asc x') had (adj_mem had').2
  have b3:=adj_btw (hY.asc x') had' (adj_mem had).1
  have b4:=adj_btw (hY.asc x') had' (adj_mem had).2
  have e1:u=u'∧v=v':=by cases A' <;> simp only [if_true,Bool.false_eq_true,if_false] at i5 i6 j5 j6 <;> omega
  rw [e1.1,e1.2]
end
end Go.Proofs.YtnhdabelepjgbaaGreat.Rg
namespace Go.Proofs.YtnhdabelepjgbaaGreat.Rg
section
variable {a:List Rect} (ha:Apart a) {Y Z:Int→List Int} (hY:Cuts a Y) (hZ:Cuts a Z) (hYZ:∀ x y,y∈Y x→y∈Z x)
include ha hY hZ hYZ
theorem fine_loops:∀ p,p∈loopsL (bdY Y a)↔p∈loopsL (bdY Z a):=by
 have N1:=bdy_net ha hY
 have N2:=bdy_net ha hZ
 generalize hl:bdY Y a=l
 generalize hl':bdY Z a=l'
 rw [hl] at N1
 rw [hl'] at N2
 have mem1:∀ {s},s∈l→s∈bdY Y a:=fun h=>by rw [hl];exact h
 have mem2:∀ {s},s∈l'→s∈bdY Z a:=fun h=>by rw [hl'];exact h
 have hd:∀ i,i<l.length→∃ k,k<l'.length∧(gtS l' k).1=(gtS l i).1∧upS (gtS l' k)=upS (gtS l i)∧fwS (gtS l' k)=fwS (gtS l i):=fun i hi=>by
  obtain ⟨t,t1,t2,t3,t4⟩:=fine_hd ha hY hZ hYZ (mem1 (gt_mem hi))
  rw [hl'] at t1
  obtain ⟨k,hk,e⟩:=mem_gt t1
  exact ⟨k,hk,by rw [e];exact t2,by rw [e];exact t3,by rw [e];exact t4⟩
 obtain ⟨h,hh⟩:∃ h:Nat→Nat,∀ i,i<l.length→h i<l'.length∧(gtS l' (h i)).1=(gtS l i).1∧upS (gtS l' (h i))=upS (gtS l i)∧fwS (gtS l' (h i))=fwS (gtS l i):=by
  refine ⟨fun i=>if q:i<l.length then Classical.choose (hd i q) else 0,fun i hi=>?_⟩
  simp only [dif_pos hi]
  exact Classical.choose_spec (hd i hi)
 have one:∀ {i k},i<l.length→k<l'.length→(gtS l' k).1=(gtS l i).1→upS (gtS l' k)=upS (gtS l i)→fwS (gtS l' k)=fwS (gtS l i)→k=h i:=fun {i k} hi hk e1 e2 e3=>by
  obtain ⟨a1,a2,a3,a4⟩:=hh i hi
  exact gt_inj N2 hk a1 (N2.out1 _ (gt_mem hk) _ (gt_mem a1) (e1.trans a2.symm) (e2.trans a3.symm) (e3.trans a4.symm))
 -- the end of a piece
 have fin:∀ i k,i<l.length→k<l'.length→(gtS l' k).2=(gtS l i).2→upS (gtS l' k)=upS (gtS l i)→fwS (gtS l' k)=fwS (gtS l i)→nxI l' k=h (nxI l i)∧cornF l' [k]=cornF l [i]:=fun i k hi hk e1 e2 e3=>by
  obtain ⟨n1,n2,n3⟩:=N1.next hi
  obtain ⟨m1,m2,m3⟩:=N2.next hk
  obtain ⟨a1,a2,a3,a4⟩:=hh _ n1
  have n3:0<turnI (gtS l i) (gtS l (nxI l i))∨((∀ t∈bdY Y a,t.1=(gtS l i).2→¬ 0<turnI (gtS l i) t)∧∀ t∈bdY Y a,t.1=(gtS l i).2→t=gtS l (nxI l i)):=by rw [hl];exact n3
  have m3:0<turnI (gtS l' k) (gtS l' (nxI l' k))∨((∀ t∈bdY Z a,t.1=(gtS l' k).2→¬ 0<turnI (gtS l' k) t)∧∀ t∈bdY Z a,t.1=(gtS l' k).2→t=gtS l' (nxI l' k)):=by rw [hl'];exact m3
  obtain ⟨r1,r2⟩:=fine_end ha hY hZ hYZ (mem1 (gt_mem hi)) (mem2 (gt_mem hk)) (mem1 (gt_mem n1)) (mem2 (gt_mem a1)) (mem2 (gt_mem m1)) e1 e2 e3 n2 n3 a2 a3 a4 m2 m3
  have ek:=gt_inj N2 m1 a1 r1
  refine ⟨ek,?_⟩
  show (if turnI (gtS l' k) (gtS l' (nxI l' k))=0 then [] else [(gtS l' k).2])++[]=(if turnI (gtS l i) (gtS l (nxI l i))=0 then [] else [(gtS l i).2])++[]
  rw [r1,r2,e1]
 refine loops_ref N1 N2 h (fun i k=>insS (gtS l i) (gtS l' k)) (fun i hi=>?_) (fun i j k hi hj q1 q2=>gt_inj N1 hi hj (ins_uni ha hY hZ hYZ (mem1 (gt_mem hi)) (mem1 (gt_mem hj)) q1 q2)) fun v hv hc=>?_
 ·obtain ⟨a1,a2,a3,a4⟩:=hh i hi
  have hs:=mem1 (gt_mem hi)
  have ht:=mem2 (gt_mem a1)
  cases hu:upS (gtS l i)
  ·-- a piece that lies is not cut
   have e:gtS l' (h i)=gtS l i:=bdy_uni ha hZ ht (ho_both ha hY hZ hYZ (bdy_ho ha hY hs hu)).2 (.inl a2) a3 a4
   obtain ⟨f1,f2⟩:=fin i (h i) hi a1 (by rw [e]) a3 a4
   refine ⟨[h i],⟨rfl,f1⟩,by simp,by simp,fun k hk=>?_,f2⟩
   rw [List.mem_singleton.1 hk]
   exact ⟨a1,a3,a4,(fun q=>by rw [hu] at q;cases q),fun _=>e⟩
  ·have run:∀ (m k:Nat),k<l'.length→insS (gtS l i) (gtS l' k)→((gtS l i).2.2-(gtS l' k).1.2).natAbs≤m →
     ∃ r,pth (nxI l') k r (h (nxI l i))∧r≠[]∧r.Nodup∧(∀ j∈r,(j<l'.length∧insS (gtS l i) (gtS l' j))∧((gtS l i).2.2-(gtS l' j).1.2).natAbs≤((gtS l i).2.2-(gtS l' k).1.2).natAbs)∧cornF l' r=cornF l [i]:=by
    intro m
    induction m with
    | zero =>
     intro k hk hin hm
     by_cases q:(gtS l' k).2=(gtS l i).2
     ·obtain ⟨f1,f2⟩:=fin i k hi hk q hin.1 hin.2.1
      exact ⟨[k],⟨rfl,f1⟩,by simp,by simp,fun j hj=>by rw [List.mem_singleton.1 hj];exact ⟨⟨hk,hin⟩,Nat.le_refl _⟩,f2⟩
     ·obtain ⟨m1,m2,_⟩:=N2.next hk
      obtain ⟨_,_,g3⟩:=fine_int ha hY hZ hYZ hs (mem2 (gt_mem hk)) (mem2 (gt_mem m1)) hu hin q m2
      omega
    | succ m ih =>
     intro k hk hin hm
     by_cases q:(gtS l' k).2=(gtS l i).2
     ·obtain ⟨f1,f2⟩:=fin i k hi hk q hin.1 hin.2.1
      exact ⟨[k],⟨rfl,f1⟩,by simp,by simp,fun j hj=>by rw [List.mem_singleton.1 hj];exact ⟨⟨hk,hin⟩,Nat.le_refl _⟩,f2⟩
     ·obtain ⟨m1,m2,_⟩:=N2.next hk
      obtain ⟨g1,g2,g3⟩:=fine_int ha hY hZ hYZ hs (mem2 (gt_mem hk)) (mem2 (gt_mem m1)) hu hin q m2
      obtain ⟨r,r1,r2,r3,r4,r5⟩:=ih (nxI l' k) m1 g1 (by omega)
      refine ⟨k :: r,⟨rfl,r1⟩,by simp,List.nodup_cons.2 ⟨fun hkr=>?_,r3⟩,fun j hj=>?_,?_⟩
      ·have:=(r4 k hkr).2
       omega
      ·rcases List.mem_cons.1 hj with e | e
       ·rw [e];exact ⟨⟨hk,hin⟩,Nat.le_refl _⟩
       ·have:=r4 j e
        exact ⟨this.1,by omega⟩
      ·have e:cornF l' (k :: r)=(if turnI (gtS l' k) (gtS l' (nxI l' k))=0 then [] else [(gtS l' k).2])++cornF l' r:=rfl
       rw [e,if_pos g2,r5];rfl
   have hin:insS (gtS l i) (gtS l' (h i)):=by
    refine ⟨a3,a4,fun _=>?_,fun q=>by rw [hu] at q;cases q⟩
    obtain ⟨x,u,v,A,hx,had,fa,c1,c2,es⟩:=bdy_up ha hY hs hu
    obtain ⟨x',p,q,A',hx',had',fa',c1',c2',et⟩:=bdy_up ha hZ ht (a3.trans hu)
    have hA:A'=A:=by rw [← fa',← fa];exact a4
    subst hA
    have huv:=adj_lt (hY.asc x) had
    have hpq:=adj_lt (hZ.asc x') had'
    rw [es,et] at a2
    rw [es,et]
    cases A'
    ·simp only [Bool.false_eq_true,if_false,Prod.mk.injEq] at a2 ⊢
     obtain ⟨e1,e2⟩:=a2
     subst e1;subst e2
     have:=adj_btw (hZ.asc x') had' (hYZ _ _ (adj_mem had).1)
     refine ⟨rfl,?_,?_⟩ <;> omega
    ·simp only [if_true,Prod.mk.injEq] at a2 ⊢
     obtain ⟨e1,e2⟩:=a2
     subst e1;subst e2
     refine ⟨rfl,?_,?_⟩ <;> omega
   obtain ⟨r,r1,r2,r3,r4,r5⟩:=run _ (h i) a1 hin (Nat.le_refl _)
   exact ⟨r,r1,r2,r3,fun k hk=>(r4 k hk).1,r5⟩
 ·have hcy:=(ways_net N2).1 v hv
  obtain ⟨x,hx⟩:=List.exists_mem_of_ne_nil _ hc
  obtain ⟨k,hk,ht,_⟩:=cornF_mem.1 hx
  have hkl:=hcy.lt k hk
  obtain ⟨m1,m2,_⟩:=N2.next hkl
  have hnv:nxI l' k∈v:=(hcy.clo N2.inj k hkl).1 hk
  have st:=(bdy_told ha hZ (mem2 (gt_mem hkl))).1
  have sn:=(bdy_told ha hZ (mem2 (gt_mem m1))).1
  have hne:upS (gtS l' k)≠upS (gtS l' (nxI l' k)):=fun e=>ht (turn_same st sn e)
  have key:∃ s∈bdY Y a,s.1=(gtS l' (nxI l' k)).1∧upS s=upS (gtS l' (nxI l' k))∧fwS s=fwS (gtS l' (nxI l' k)):=by
   cases hu:upS (gtS l' (nxI l' k))
   ·exact ⟨_,(ho_both ha hY hZ hYZ (bdy_ho ha hZ (mem2 (gt_mem m1)) hu)).1,rfl,hu,rfl⟩
   ·have hk0 : upS (gtS l' k) = false := by cases q : upS (gtS l' k); · rfl
                                            ·rw [q,hu] at hne;exact absurd rfl hne
    have hk1:=(ho_both ha hY hZ hYZ (bdy_ho ha hZ (mem2 (gt_mem hkl)) hk0)).1
    obtain ⟨_,⟨_,x1,x2⟩,_⟩:=bdy_told ha hY hk1
    have qo:=(bdy_told ha hZ (mem2 (gt_mem m1))).2.2
    rw [m2] at qo ⊢
    rw [hu] at qo
    exact outy_ex ha hY x1 x2 qo
  obtain ⟨s,s1,s2,s3,s4⟩:=key
  rw [hl] at s1
  obtain ⟨i,hi,e⟩:=mem_gt s1
  refine ⟨i,hi,?_⟩
  rw [← one hi m1 (by rw [e];exact s2.symm) (by rw [e];exact s3.symm) (by rw [e];exact s4.symm)]
  exact hnv
end
end Go.Proofs.YtnhdabelepjgbaaGreat.Rg
namespace Go.Proofs.YtnhdabelepjgbaaGreat.Rg
def yAll (a:List Rect):List Int:=sortU (a.flatMap fun r=>[r.y0,r.y1])
def colQ (a:List Rect) (x:Int):List Int→List Sd
 | u :: v :: ys=>(if (cell a (x-1) u && !cell a x u)=true then [((x,u),(x,v))] else [])++((if (cell a x u && !cell a (x-1) u)=true then [((x,v),(x,u))] else [])++colQ a x (v :: ys))
 | _=>[]
def refS (a:List Rect):List Sd:=bdH a++(xsB a).flatMap fun x=>colQ a x (yAll a)
theorem yAll_mem {a:List Rect} {y:Int}:y∈yAll a↔∃ r∈a,y=r.y0∨y=r.y1:=by
 unfold yAll
 rw [sortU_mem,List.mem_flatMap]
 simp
section
variable {a:List Rect} (ha:Apart a)
include ha
theorem colQ_eq {x:Int} (hx:x∈xsB a):∀ ys:List Int,colQ a x ys=upL x (endsX a x) (begsX a x) ys
 | []=>rfl
 | [_]=>rfl
 | u :: v :: ys=>by
  have ih:=colQ_eq hx (v :: ys)
  have e1:colQ a x (u :: v :: ys)=(if (cell a (x-1) u && !cell a x u)=true then [((x,u),(x,v))] else [])++((if (cell a x u && !cell a (x-1) u)=true then [((x,v),(x,u))] else [])++colQ a x (v :: ys)):=rfl
  have e2:upL x (endsX a x) (begsX a x) (u :: v :: ys)=(if (inY (endsX a x) u && !inY (begsX a x) u)=true then [((x,u),(x,v))] else if (inY (begsX a x) u && !inY (endsX a x) u)=true then [((x,v),(x,u))] else [])++upL x (endsX a x) (begsX a x) (v :: ys):=rfl
  rw [e1,e2,ih,left_in_cell ha hx,right_in_cell ha hx,← List.append_assoc]
  congr 1
  cases cell a (x-1) u <;> cases cell a x u <;> rfl
omit ha in
theorem cuts_all:Cuts a fun _=>yAll a:=⟨fun _=>sortU_asc _,fun r hr _=>⟨yAll_mem.2 ⟨r,hr,.inl rfl⟩,yAll_mem.2 ⟨r,hr,.inr rfl⟩⟩⟩
theorem refS_eq:refS a=bdY (fun _=>yAll a) a:=by
 unfold refS bdY
 congr 1
 have key:∀ l:List Int,(∀ x∈l,x∈xsB a)→(l.flatMap fun x=>colQ a x (yAll a))=l.flatMap (colYY (fun _=>yAll a) a):=by
  intro l
  induction l with
  | nil=>intro _;rfl
  | cons x l ih =>
   intro h
   rw [List.flatMap_cons,List.flatMap_cons,ih fun y hy=>h y (List.mem_cons_of_mem _ hy),colQ_eq ha (h x (List.mem_cons_self ..))]
   rfl
 exact key _ fun x h=>h
theorem ref_net:Net (refS a):=by rw [refS_eq ha];exact bdy_net ha cuts_all
theorem ref_loops:∀ p,p∈loopsL (bdL a)↔p∈loopsL (refS a):=by
 intro p
 rw [refS_eq ha,← bdY_own]
 exact fine_loops ha (cuts_own a) cuts_all (fun x y hy=>by
  obtain ⟨r,hr,_,h⟩:=ysX_mem.1 hy
  exact yAll_mem.2 ⟨r,hr,h⟩) p
end
theorem minP_snoc (a x:Pt) (l:List Pt):minP a (l++[x])=if ltPo x (minP a l)=true then x else minP a l:=by
 unfold minP
 rw [List.foldl_append];rfl
theorem rot_at {a:Pt} {l:List Pt} {f:Nat} (hf:f<(a :: l).length) (h1:(a :: l)[f]=minP a l) (h2:∀ (j:Nat) (h:j<f),(a :: l)[j]'(by omega)≠minP a l):(a :: l).drop f++(a :: l).take f=rotM (a :: l):=by
 have e:(a :: l).idxOf (minP a l)=f:=by
  have hm:minP a l∈a :: l:=by rw [← h1];exact List.getElem_mem hf
  have hlt:=List.idxOf_lt_length_of_mem hm
  have hg:(a :: l)[(a :: l).idxOf (minP a l)]=minP a l:=List.getElem_idxOf hlt
  rcases Nat.lt_trichotomy ((a :: l).idxOf (minP a l)) f with q | q | q
  ·exact absurd hg (h2 _ q)
  ·exact q
  ·exfalso
   have:=List.not_of_lt_findIdx (p:=(· == minP a l)) (xs:=a :: l) (i:=f) q
   rw [h1] at this
   simp at this
 show _=(a :: l).drop ((a :: l).idxOf (minP a l))++(a :: l).take ((a :: l).idxOf (minP a l))
 rw [e]
def hdP (p:List Pt):Pt:=p.headD (0,0)
def ascH (o:List (List Pt)):Prop:=o.Pairwise fun p q=>ltPo (hdP p) (hdP q)=true
theorem ins_asc {o:List (List Pt)} (ho:ascH o) {p:List Pt} {k:Nat} (hk:k≤o.length) (h1:∀ q∈o.drop k,ltPo (hdP p) (hdP q)=true) (h2:∀ (h:0<k),ltPo (hdP p) (hdP (o[k-1]'(by omega)))=false) (hne:∀ q∈o,hdP q≠hdP p):ascH (o.take k++p :: o.drop k):=by
 unfold ascH at *
 have hs:o.take k++o.drop k=o:=List.take_append_drop k o
 have ho':=ho
 rw [← hs,List.pairwise_append] at ho'
 have htk:∀ q∈o.take k,ltPo (hdP q) (hdP p)=true:=fun q hq=>by
  have hk0:0<k:=by
   rcases Nat.eq_zero_or_pos k with e | e
   ·rw [e] at hq;cases hq
   ·exact e
  have hl:=h2 hk0
  have hmem:o[k-1]'(by omega)∈o:=List.getElem_mem _
  have hlast:ltPo (hdP (o[k-1]'(by omega))) (hdP p)=true:=by
   rcases ltP_tri (hdP (o[k-1]'(by omega))) (hdP p) with c | c | c
   ·exact c
   ·exact absurd c (hne _ hmem)
   ·rw [c] at hl;cases hl
  obtain ⟨j,hj,e⟩:=List.getElem_of_mem hq
  rw [List.length_take] at hj
  rw [List.getElem_take] at e
  by_cases q1:j=k-1
  ·subst q1;rw [← e];exact hlast
  ·have:=List.pairwise_iff_getElem.1 ho j (k-1) (by omega) (by omega) (by omega)
   rw [e] at this
   exact ltP_trans this hlast
 rw [List.pairwise_append]
 refine ⟨ho'.1,List.pairwise_cons.2 ⟨h1,ho'.2.1⟩,fun q hq r hr=>?_⟩
 rcases List.mem_cons.1 hr with e | e
 ·rw [e];exact htk q hq
 ·exact ho'.2.2 q hq r e
theorem asc_eq {o m:List (List Pt)} (ho:ascH o) (hm:ascH m) (h:∀ p,p∈o↔p∈m):o=m :=
 ascR_ext (R:=fun p q=>ltPo (hdP p) (hdP q)=true) (fun p q=>by rw [ltP_irr] at q;cases q) (fun p q h1 h2=>by rw [ltP_asym h1] at h2;cases h2) ho hm h
def remL (l:List Sd) (i:Nat) (d:List Bool):List (List Pt):=((waysF (nxI l) l.length (l.length-i) i d).map fun w=>rotM (cornF l w)).filter fun p=>!p.isEmpty
theorem rem_end (l:List Sd) {i:Nat} (d:List Bool) (h:l.length≤i):remL l i d=[]:=by
 unfold remL
 rw [show l.length-i=0 by omega];rfl
theorem rem_step (l:List Sd) {i:Nat} (d:List Bool) (h:i<l.length):remL l i d=(if rotM (cornF l (trc (nxI l) (l.length+1) d i).2)=[] then [] else [rotM (cornF l (trc (nxI l) (l.length+1) d i).2)])++remL l (i+1) (trc (nxI l) (l.length+1) d i).1:=by
 unfold remL
 have ew:waysF (nxI l) l.length (l.length-i) i d=(trc (nxI l) (l.length+1) d i).2 :: waysF (nxI l) l.length (l.length-(i+1)) (i+1) (trc (nxI l) (l.length+1) d i).1:=by
  rw [show l.length-i=(l.length-(i+1))+1 by omega];rfl
 rw [ew,List.map_cons]
 generalize rotM (cornF l (trc (nxI l) (l.length+1) d i).2)=p
 cases p with
 | nil=>rfl
 | cons x p=>rw [if_neg (by simp),List.filter_cons_of_pos (by rfl)];rfl
theorem rem_all (l:List Sd):remL l 0 (List.replicate l.length false)=loopsL l:=rfl
theorem perm_ins {o:List (List Pt)} {p:List Pt} {k:Nat} {R L:List (List Pt)} (h:(o++([p]++R)).Perm L):((o.take k++p :: o.drop k)++R).Perm L:=by
 refine List.Perm.trans ?_ h
 have e:o.Perm (o.take k++o.drop k):=by rw [List.take_append_drop]
 have h1:(o.take k++p :: o.drop k).Perm (p :: o):=List.perm_middle.trans ((e.symm).cons p)
 have h2:(o++([p]++R)).Perm ((p :: o)++R):=by
  rw [← List.append_assoc]
  exact (List.perm_append_comm).append_right R
 exact (h1.append_right R).trans h2.symm
theorem heads_ne {o R L:List (List Pt)} {p:List Pt} (h:(o++([p]++R)).Perm L) (hn:(L.map fun p=>p.headD (0,0)).Nodup):∀ q∈o,hdP q≠hdP p:=by
 intro q hq e
 have h1:((o++([p]++R)).map hdP).Nodup:=(h.map hdP).nodup_iff.2 hn
 rw [List.map_append,List.nodup_append] at h1
 exact h1.2.2 (hdP q) (List.mem_map_of_mem hq) (hdP p) (by simp) e
end Go.Proofs.YtnhdabelepjgbaaGreat.Rg
namespace Go.Proofs.YtnhdabelepjgbaaGreat.Rg
open Bm (sortI sortI_perm sortI_sorted sortI_len)
def lowN:List Int→Int→Nat
 | [],_=>0
 | a :: l,z=>if a<z then lowN l z+1 else 0
theorem lowN_le:∀ (l:List Int) (z:Int),lowN l z≤l.length
 | [],_=>Nat.le_refl _
 | a :: l,z=>by
  have ih:=lowN_le l z
  unfold lowN
  split
  ·rw [List.length_cons];omega
  ·exact Nat.zero_le _
def ins7 (o:List Int) (z:Int):List Int:=if lowN o z<o.length∧o.getD (lowN o z) 0=z then o else putAt o (lowN o z) z
theorem ins7_eq (z:Int):∀ o:List Int,ins7 o z=insU z o
 | []=>rfl
 | a :: o=>by
  have ih:=ins7_eq z o
  unfold ins7 at ih ⊢
  unfold insU lowN
  by_cases h:a<z
  ·rw [if_pos h,if_neg (show ¬ z<a by omega),if_neg (show ¬ z=a by omega),← ih]
   have e:(a :: o).getD (lowN o z+1) 0=o.getD (lowN o z) 0:=by simp
   rw [e,List.length_cons]
   by_cases q:lowN o z<o.length∧o.getD (lowN o z) 0=z
   ·rw [if_pos q,if_pos ⟨by omega,q.2⟩]
   ·rw [if_neg q,if_neg fun k=>q ⟨by omega,k.2⟩];rfl
  ·rw [if_neg h]
   have e:(a :: o).getD 0 0=a:=rfl
   rw [e]
   by_cases q:z=a
   ·subst q
    rw [if_pos ⟨Nat.zero_lt_succ _,rfl⟩,if_neg (show ¬ z<z by omega),if_pos rfl]
   ·rw [if_neg fun k=>q k.2.symm,if_pos (show z<a by omega)];rfl
theorem ins7_sortU (l:List Int):l.foldl ins7 []=sortU l:=by
 have key:∀ (l o:List Int),o.Pairwise (· < ·)→(l.foldl ins7 o).Pairwise (· < ·)∧∀ w,w∈l.foldl ins7 o↔w∈l∨w∈o:=by
  intro l
  induction l with
  | nil=>exact fun o h=>⟨h,fun w=>by simp⟩
  | cons z l ih =>
   intro o h
   obtain ⟨h2,h3⟩:=ih (ins7 o z) (by rw [ins7_eq];exact insU_asc h)
   refine ⟨h2,fun w=>?_⟩
   rw [List.foldl_cons,h3,ins7_eq,insU_mem,List.mem_cons]
   exact ⟨fun h=>h.elim (fun h=>.inl (.inr h)) fun h=>h.elim (fun h=>.inl (.inl h)) .inr,fun h=>h.elim (fun h=>h.elim (fun h=>.inr (.inl h)) .inl) fun h=>.inr (.inr h)⟩
 obtain ⟨h1,h2⟩:=key l [] .nil
 refine asc_ext h1 (sortU_asc l) fun w=>?_
 rw [h2,sortU_mem];simp
def corn7 (p:List Pt) (i:Nat):Bool:=onB (sd p i).1 && (decide ((sd p i).1.1=(sd p i).2.1) != decide ((sd p i).1.2=(sd p i).2.2)) && (upS (sd p i) != upS (sd p ((i+1) % p.length)))
theorem sd_pts {p:List Pt} {i:Nat} (h:i<p.length):sd p i=(p.getD i (0,0),p.getD ((i+1) % p.length) (0,0)):=by
 have hm:(i+1) % p.length<p.length:=Nat.mod_lt _ (by omega)
 rw [sd_get (by rw [sides_len];exact h),sides_get h,List.getD_eq_getElem?_getD,List.getD_eq_getElem?_getD,List.getElem?_eq_getElem h,List.getElem?_eq_getElem hm];rfl
theorem corn7_pts {p:List Pt} {i:Nat} (h:i<p.length) {a b c:Pt} (ha:p.getD i (0,0)=a) (hb:p.getD ((i+1) % p.length) (0,0)=b) (hc:p.getD ((i+2) % p.length) (0,0)=c) :
  corn7 p i=(onB a && (decide (a.1=b.1) != decide (a.2=b.2)) && (decide (a.1=b.1) != decide (b.1=c.1))):=by
 have hm:(i+1) % p.length<p.length:=Nat.mod_lt _ (by omega)
 unfold corn7 upS
 rw [sd_pts h,sd_pts hm,ha,hb]
 have e:((i+1) % p.length+1) % p.length=(i+2) % p.length:=by rw [Nat.mod_add_mod]
 rw [e,hc]
def meet7 (p:List Pt) (i k:Nat):Bool:=!(decide ((k+1) % p.length≠i) && crossB (sd p i) (sd p k))
def row7 (p:List Pt) (i:Nat):Bool:=(decide (i=0) || ltP (p.getD 0 (0,0)) (p.getD i (0,0))) && allFr (meet7 p i) (i+2) (p.length-(i+2))
def right7 (p:List Pt):Bool:=decide (4≤p.length) && decide (p.length≤60) && allFr (corn7 p) 0 p.length && decide ((sd p 0).1.2=(sd p 0).2.2) && allFr (row7 p) 0 p.length
theorem right7_eq (p:List Pt):right7 p=rightP p:=by
 unfold right7 rightP
 by_cases hl:4≤p.length
 ·have e1:allFr (row7 p) 0 p.length=(allFr (fun i=>decide (i=0) || ltP (p.getD 0 (0,0)) (p.getD i (0,0))) 0 p.length && allFr (crI p) 0 p.length):=by
   rw [← allFr_and]
   refine allFr_congr fun i _ hi=>?_
   unfold row7 crI
   congr 1
   refine allFr_congr fun k h1 h2=>?_
   unfold meet7 crJ
   congr 2
   rw [decide_eq_decide]
   have hk:k<p.length:=by omega
   by_cases hk1:k+1<p.length
   ·rw [Nat.mod_eq_of_lt hk1];omega
   ·have:k+1=p.length:=by omega
    rw [this,Nat.mod_self];omega
  have e2:allFr (okI p) 0 p.length=(allFr (corn7 p) 0 p.length && allFr (fun i=>decide (i=0) || ltP (p.getD 0 (0,0)) (p.getD i (0,0))) 0 p.length):=by
   rw [← allFr_and]
   refine allFr_congr fun i _ hi=>?_
   unfold okI okJ corn7
   simp only [Bool.and_assoc]
  rw [e1,e2]
  cases hc:allFr (corn7 p) 0 p.length
  ·simp only [Bool.and_false,Bool.false_and]
  ·have h0:corn7 p 0=true:=allFr_true.1 hc 0 (Nat.le_refl _) (by omega)
   unfold corn7 at h0
   rw [Bool.and_eq_true,Bool.and_eq_true] at h0
   have h1:=h0.1.2
   have e3:(!upS (sd p 0))=decide ((sd p 0).1.2=(sd p 0).2.2):=by
    unfold upS
    cases hx:decide ((sd p 0).1.1=(sd p 0).2.1) <;> cases hy:decide ((sd p 0).1.2=(sd p 0).2.2) <;> rw [hx,hy] at h1 <;> first | rfl | exact absurd h1 (by decide)
   rw [e3]
   cases decide (4≤p.length) <;> cases decide (p.length≤60) <;> cases decide ((sd p 0).1.2=(sd p 0).2.2) <;> cases allFr (fun i=>decide (i=0) || ltP (p.getD 0 (0,0)) (p.getD i (0,0))) 0 p.length <;> cases allFr (crI p) 0 p.length <;> rfl
 ·rw [decide_eq_false hl];rfl
def in7 (x:Int) (s:Pt × Pt):Bool:=decide (s.1.2=s.2.2) && hB x s
def rows7 (p:List Pt) (x:Int):List Int:=((sidesP p).filter (in7 x)).map fun s=>s.1.2
theorem rows7_eq {p:List Pt} (h:Poly p) (x:Int):rows7 p x=ysP p x:=by
 unfold rows7 ysP
 congr 1
 refine List.filter_congr fun s hs=>?_
 unfold in7
 by_cases hu:s.1.1=s.2.1
 ·have:hB x s=false:=by
   rw [Bool.eq_false_iff]
   intro q
   rw [hB_iff] at q
   omega
  rw [this,Bool.and_false]
 ·rw [decide_eq_true (h.flat hs hu),Bool.true_and]
theorem sortU_strict {l:List Int} (h:l.Pairwise (·≠·)):sortU l=sortI l:=by
 refine asc_ext (sortU_asc l) (strict (sortI_sorted l) ((sortI_perm l).symm.pairwise h fun h=>Ne.symm h)) fun w=>?_
 rw [sortU_mem,(sortI_perm l).mem_iff]
theorem rows7_sort {p:List Pt} (h:Poly p) (x:Int):sortU (rows7 p x)=sortI (ysP p x):=by
 rw [rows7_eq h,sortU_strict (h.ys_nodup x)]
end Go.Proofs.YtnhdabelepjgbaaGreat.Rg
