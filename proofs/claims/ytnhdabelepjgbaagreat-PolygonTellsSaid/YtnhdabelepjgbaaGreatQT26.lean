/-
 Loops of which the exit is told, and a relation of what they leave. Conditions: each lemma says its own.
-/
import Derived.Test.YtnhdabelepjgbaaGreatQT25
import Derived.Test.YtnhdabelepjgbaaGreatQT16
import Derived.Test.YtnhdabelepjgbaaGreatQT24
import Derived.Test.YtnhdabelepjgbaaGreatQT15
namespace Go.Proofs.YtnhdabelepjgbaaGreat.Rg
def adjL (l:List Int) (u v:Int):Prop:=∃ p q,l=p++u :: v :: q
theorem adj_cons {c:Int} {l:List Int} {u v:Int} (h:adjL l u v):adjL (c :: l) u v:=by
 obtain ⟨p,q,rfl⟩:=h
 exact ⟨c :: p,q,rfl⟩
theorem adj_cases {c d:Int} {l:List Int} {u v:Int} (h:adjL (c :: d :: l) u v):(u=c∧v=d)∨adjL (d :: l) u v:=by
 obtain ⟨p,q,e⟩:=h
 cases p with
 | nil =>
  simp only [List.nil_append,List.cons.injEq] at e
  exact .inl ⟨e.1.symm,e.2.1.symm⟩
 | cons b p =>
  simp only [List.cons_append,List.cons.injEq] at e
  exact .inr ⟨p,q,e.2⟩
theorem adj_mem {l:List Int} {u v:Int} (h:adjL l u v):u∈l∧v∈l:=by
 obtain ⟨p,q,rfl⟩:=h
 exact ⟨by simp,by simp⟩
theorem adj_lt {l:List Int} (hp:l.Pairwise (· < ·)) {u v:Int} (h:adjL l u v):u<v:=by
 obtain ⟨p,q,rfl⟩:=h
 have:=(List.pairwise_append.1 hp).2.1
 rw [List.pairwise_cons] at this
 exact this.1 v (List.mem_cons_self ..)
theorem adj_btw {l:List Int} (hp:l.Pairwise (· < ·)) {u v e:Int} (h:adjL l u v) (he:e∈l):e≤u∨v≤e:=by
 obtain ⟨p,q,h⟩:=h
 exact between hp h he
theorem adj_next {l:List Int} (hp:l.Pairwise (· < ·)) {u:Int} (hu:u∈l) {z:Int} (hz:z∈l) (h:u<z):∃ v,adjL l u v:=by
 obtain ⟨p,q,e⟩:=List.append_of_mem hu
 subst e
 cases q with
 | nil =>
  exfalso
  rcases List.mem_append.1 hz with k | k
  ·have:=(List.pairwise_append.1 hp).2.2 z k u (List.mem_cons_self ..)
   omega
  ·have:=List.mem_singleton.1 k
   omega
 | cons v q=>exact ⟨v,p,q,rfl⟩
theorem adj_prev {l:List Int} (hp:l.Pairwise (· < ·)) {v:Int} (hv:v∈l) {z:Int} (hz:z∈l) (h:z<v):∃ u,adjL l u v:=by
 obtain ⟨p,q,e⟩:=List.append_of_mem hv
 subst e
 rcases List.eq_nil_or_concat p with rfl | ⟨p',u,rfl⟩
 ·exfalso
  rw [List.nil_append] at hp hz
  rw [List.pairwise_cons] at hp
  rcases List.mem_cons.1 hz with k | k
  ·omega
  ·have:=hp.1 z k;omega
 ·rw [List.concat_eq_append]
  exact ⟨u,p',q,by simp⟩
theorem adj_unr {l:List Int} (hp:l.Pairwise (· < ·)) {u v w:Int} (h:adjL l u v) (k:adjL l u w):v=w:=by
 have h1:=adj_lt hp h
 have h2:=adj_lt hp k
 have h3:=adj_btw hp h (adj_mem k).2
 have h4:=adj_btw hp k (adj_mem h).2
 omega
theorem adj_unl {l:List Int} (hp:l.Pairwise (· < ·)) {u v w:Int} (h:adjL l u w) (k:adjL l v w):u=v:=by
 have h1:=adj_lt hp h
 have h2:=adj_lt hp k
 have h3:=adj_btw hp h (adj_mem k).1
 have h4:=adj_btw hp k (adj_mem h).1
 omega
theorem up_mem {x:Int} {L R:List Rect} {s:Sd}:∀ {ys:List Int},s∈upL x L R ys↔∃ u v,adjL ys u v∧((s=((x,u),(x,v))∧inY L u=true∧inY R u=false)∨(s=((x,v),(x,u))∧inY R u=true∧inY L u=false))
 | []=>⟨fun h=>absurd h List.not_mem_nil,fun ⟨u,v,⟨p,q,e⟩,_⟩=>by cases p <;> cases e⟩
 | [c]=>⟨fun h=>absurd h List.not_mem_nil,fun ⟨u,v,⟨p,q,e⟩,_⟩=>by
   cases p with
   | nil=>simp at e
   | cons b p=>cases p <;> simp at e⟩
 | c :: d :: ys=>by
  have ih:=up_mem (x:=x) (L:=L) (R:=R) (s:=s) (ys:=d :: ys)
  show s∈(if (inY L c && !inY R c)=true then [((x,c),(x,d))] else if (inY R c && !inY L c)=true then [((x,d),(x,c))] else [])++upL x L R (d :: ys)↔_
  rw [List.mem_append,ih]
  constructor
  ·rintro (h | ⟨u,v,h1,h2⟩)
   ·refine ⟨c,d,⟨[],ys,rfl⟩,?_⟩
    cases h1:inY L c <;> cases h2:inY R c <;> rw [h1,h2] at h <;> simp at h
    ·exact .inr ⟨h,rfl,rfl⟩
    ·exact .inl ⟨h,rfl,rfl⟩
   ·exact ⟨u,v,adj_cons h1,h2⟩
  ·rintro ⟨u,v,h1,h2⟩
   rcases adj_cases h1 with ⟨rfl,rfl⟩ | h1
   ·left
    rcases h2 with ⟨e,h3,h4⟩ | ⟨e,h3,h4⟩
    ·rw [h3,h4,e];simp
    ·rw [h3,h4,e];simp
   ·exact .inr ⟨u,v,h1,h2⟩
def ysX (a:List Rect) (x:Int):List Int:=ysB (endsX a x) (begsX a x)
theorem ysX_asc (a:List Rect) (x:Int):(ysX a x).Pairwise (· < ·):=sortU_asc _
theorem ysX_mem {a:List Rect} {x y:Int}:y∈ysX a x↔∃ r∈a,(r.x1=x∨r.x0=x)∧(y=r.y0∨y=r.y1):=by
 unfold ysX endsX begsX
 rw [ys_mem]
 simp only [List.mem_filter,decide_eq_true_eq]
 constructor
 ·rintro ⟨r,⟨h1,h2⟩ | ⟨h1,h2⟩,h3⟩
  ·exact ⟨r,h1,.inl h2,h3⟩
  ·exact ⟨r,h1,.inr h2,h3⟩
 ·rintro ⟨r,h1,h2 | h2,h3⟩
  ·exact ⟨r,.inl ⟨h1,h2⟩,h3⟩
  ·exact ⟨r,.inr ⟨h1,h2⟩,h3⟩
def QIn (a:List Rect) (x y:Int):Bool→Bool→Prop
 | false,true=>cell a (x-1) y=true∧cell a (x-1) (y-1)=false
 | false,false=>cell a x (y-1)=true∧cell a x y=false
 | true,true=>cell a (x-1) (y-1)=true∧cell a x (y-1)=false
 | true,false=>cell a x y=true∧cell a (x-1) y=false
def QOut (a:List Rect) (x y:Int):Bool→Bool→Prop
 | false,true=>cell a x y=true∧cell a x (y-1)=false
 | false,false=>cell a (x-1) (y-1)=true∧cell a (x-1) y=false
 | true,true=>cell a (x-1) y=true∧cell a x y=false
 | true,false=>cell a x (y-1)=true∧cell a (x-1) (y-1)=false
section
variable {a:List Rect} (ha:Apart a)
include ha
theorem col_const {x u v:Int} (hx:x∈xsB a) (h:adjL (ysX a x) u v):cell a (x-1) u=cell a (x-1) (v-1)∧cell a x u=cell a x (v-1):=by
 have hlt:=adj_lt (ysX_asc a x) h
 rw [← left_in_cell ha hx,← left_in_cell ha hx,← right_in_cell ha hx,← right_in_cell ha hx]
 have key:∀ L:List Rect,(∀ r∈L,r.y0∈ysX a x∧r.y1∈ysX a x)→inY L u=inY L (v-1):=fun L hL=>any_ext fun r hr=>by
  obtain ⟨h1,h2⟩:=hL r hr
  have h1:=adj_btw (ysX_asc a x) h h1
  have h2:=adj_btw (ysX_asc a x) h h2
  rw [Bool.eq_iff_iff,Bool.and_eq_true,Bool.and_eq_true,decide_eq_true_eq,decide_eq_true_eq,decide_eq_true_eq,decide_eq_true_eq]
  omega
 constructor
 ·refine key _ fun r hr=>?_
  obtain ⟨h1,h2⟩:=List.mem_filter.1 hr
  rw [decide_eq_true_eq] at h2
  exact ⟨ysX_mem.2 ⟨r,h1,.inl h2,.inl rfl⟩,ysX_mem.2 ⟨r,h1,.inl h2,.inr rfl⟩⟩
 ·refine key _ fun r hr=>?_
  obtain ⟨h1,h2⟩:=List.mem_filter.1 hr
  rw [decide_eq_true_eq] at h2
  exact ⟨ysX_mem.2 ⟨r,h1,.inr h2,.inl rfl⟩,ysX_mem.2 ⟨r,h1,.inr h2,.inr rfl⟩⟩
theorem bd_mem {s:Sd}:s∈bdL a↔(∃ r∈a,s=botR r)∨(∃ r∈a,s=topR r) ∨
  (∃ x∈xsB a,∃ u v,adjL (ysX a x) u v∧s=((x,u),(x,v))∧cell a (x-1) u=true∧cell a x u=false) ∨
  (∃ x∈xsB a,∃ u v,adjL (ysX a x) u v∧s=((x,v),(x,u))∧cell a x u=true∧cell a (x-1) u=false):=by
 unfold bdL bdH
 rw [List.mem_append,List.mem_flatMap,List.mem_flatMap]
 constructor
 ·rintro (⟨r,hr,h⟩ | ⟨x,hx,h⟩)
  ·simp only [List.mem_cons,List.not_mem_nil,or_false] at h
   rcases h with h | h
   ·exact .inl ⟨r,hr,h⟩
   ·exact .inr (.inl ⟨r,hr,h⟩)
  ·unfold colX at h
   rw [up_mem] at h
   obtain ⟨u,v,h1,h2⟩:=h
   rw [left_in_cell ha hx,right_in_cell ha hx] at h2
   rcases h2 with ⟨e,h3,h4⟩ | ⟨e,h3,h4⟩
   ·exact .inr (.inr (.inl ⟨x,hx,u,v,h1,e,h3,h4⟩))
   ·exact .inr (.inr (.inr ⟨x,hx,u,v,h1,e,h3,h4⟩))
 ·rintro (⟨r,hr,rfl⟩ | ⟨r,hr,rfl⟩ | ⟨x,hx,u,v,h1,h2⟩ | ⟨x,hx,u,v,h1,h2⟩)
  ·exact .inl ⟨r,hr,by simp⟩
  ·exact .inl ⟨r,hr,by simp⟩
  ·refine .inr ⟨x,hx,?_⟩
   unfold colX
   rw [up_mem]
   refine ⟨u,v,h1,?_⟩
   rw [left_in_cell ha hx,right_in_cell ha hx]
   exact .inl h2
  ·refine .inr ⟨x,hx,?_⟩
   unfold colX
   rw [up_mem]
   refine ⟨u,v,h1,?_⟩
   rw [left_in_cell ha hx,right_in_cell ha hx]
   exact .inr h2
theorem bot_kind {r:Rect} (hr:r∈a):upS (botR r)=false∧fwS (botR r)=true∧stS (botR r):=by
 have:=ha.pos r hr
 have e:upS (botR r)=false:=decide_eq_false (by show ¬ r.x0=r.x1;omega)
 refine ⟨e,?_,?_⟩
 ·unfold fwS;rw [e,if_neg (by decide)];exact decide_eq_true (by show r.x0<r.x1;omega)
 ·unfold stS;rw [e,if_neg (by decide)];rfl
theorem top_kind {r:Rect} (hr:r∈a):upS (topR r)=false∧fwS (topR r)=false∧stS (topR r):=by
 have:=ha.pos r hr
 have e:upS (topR r)=false:=decide_eq_false (by show ¬ r.x1=r.x0;omega)
 refine ⟨e,?_,?_⟩
 ·unfold fwS;rw [e,if_neg (by decide)];exact decide_eq_false (by show ¬ r.x1<r.x0;omega)
 ·unfold stS;rw [e,if_neg (by decide)];rfl
omit ha in
theorem up_kind {x u v:Int} (h:u<v):upS ((x,u),(x,v))=true∧fwS ((x,u),(x,v))=true∧stS ((x,u),(x,v)):=by
 have e:upS ((x,u),(x,v))=true:=decide_eq_true rfl
 refine ⟨e,?_,?_⟩
 ·unfold fwS;rw [e,if_pos rfl];exact decide_eq_true h
 ·unfold stS;rw [e,if_pos rfl];show u≠v;omega
omit ha in
theorem down_kind {x u v:Int} (h:u<v):upS ((x,v),(x,u))=true∧fwS ((x,v),(x,u))=false∧stS ((x,v),(x,u)):=by
 have e:upS ((x,v),(x,u))=true:=decide_eq_true rfl
 refine ⟨e,?_,?_⟩
 ·unfold fwS;rw [e,if_pos rfl];exact decide_eq_false (by show ¬ v<u;omega)
 ·unfold stS;rw [e,if_pos rfl];show v≠u;omega
omit ha in
theorem xs0 {r:Rect} (hr:r∈a):r.x0∈xsB a:=xs_mem.2 ⟨r,hr,.inl rfl⟩
omit ha in
theorem xs1 {r:Rect} (hr:r∈a):r.x1∈xsB a:=xs_mem.2 ⟨r,hr,.inr rfl⟩
theorem bd_told {s:Sd} (h:s∈bdL a):stS s∧(QIn a s.2.1 s.2.2 (upS s) (fwS s)∧s.2.1∈xsB a∧s.2.2∈ysX a s.2.1)∧QOut a s.1.1 s.1.2 (upS s) (fwS s):=by
 rcases (bd_mem ha).1 h with ⟨r,hr,rfl⟩ | ⟨r,hr,rfl⟩ | ⟨x,hx,u,v,h1,rfl,h2,h3⟩ | ⟨x,hx,u,v,h1,rfl,h2,h3⟩
 ·obtain ⟨k1,k2,k3⟩:=bot_kind ha hr
  rw [k1,k2]
  exact ⟨k3,⟨(botE_at ha (xs1 hr)).1 ⟨r,hr,rfl,rfl⟩,xs1 hr,ysX_mem.2 ⟨r,hr,.inl rfl,.inl rfl⟩⟩,(bot_at ha (xs0 hr)).1 ⟨r,hr,rfl,rfl⟩⟩
 ·obtain ⟨k1,k2,k3⟩:=top_kind ha hr
  rw [k1,k2]
  exact ⟨k3,⟨(top_at ha (xs0 hr)).1 ⟨r,hr,rfl,rfl⟩,xs0 hr,ysX_mem.2 ⟨r,hr,.inr rfl,.inr rfl⟩⟩,(topE_at ha (xs1 hr)).1 ⟨r,hr,rfl,rfl⟩⟩
 ·obtain ⟨k1,k2,k3⟩:=up_kind (x:=x) (adj_lt (ysX_asc a x) h1)
  obtain ⟨c1,c2⟩:=col_const ha hx h1
  rw [k1,k2]
  exact ⟨k3,⟨⟨c1.symm.trans h2,c2.symm.trans h3⟩,hx,(adj_mem h1).2⟩,h2,h3⟩
 ·obtain ⟨k1,k2,k3⟩:=down_kind (x:=x) (adj_lt (ysX_asc a x) h1)
  obtain ⟨c1,c2⟩:=col_const ha hx h1
  rw [k1,k2]
  exact ⟨k3,⟨⟨h2,h3⟩,hx,(adj_mem h1).1⟩,c2.symm.trans h2,c1.symm.trans h3⟩
theorem out_ex {x y:Int} (hx:x∈xsB a) (hy:y∈ysX a x) {o f:Bool} (h:QOut a x y o f):∃ t∈bdL a,t.1=(x,y)∧upS t=o∧fwS t=f:=by
 cases o <;> cases f
 ·obtain ⟨r,hr,h1,h2⟩:=(topE_at ha hx).2 h
  obtain ⟨k1,k2,_⟩:=top_kind ha hr
  exact ⟨topR r,(bd_mem ha).2 (.inr (.inl ⟨r,hr,rfl⟩)),by unfold topR;rw [h1,h2],k1,k2⟩
 ·obtain ⟨r,hr,h1,h2⟩:=(bot_at ha hx).2 h
  obtain ⟨k1,k2,_⟩:=bot_kind ha hr
  exact ⟨botR r,(bd_mem ha).2 (.inl ⟨r,hr,rfl⟩),by unfold botR;rw [h1,h2],k1,k2⟩
 ·obtain ⟨h1,h2⟩:=h
  have h1':=h1
  rw [← right_in_cell ha hx] at h1'
  obtain ⟨r,hr,hr2⟩:=List.any_eq_true.1 h1'
  rw [Bool.and_eq_true,decide_eq_true_eq,decide_eq_true_eq] at hr2
  obtain ⟨r1,r2⟩:=List.mem_filter.1 hr
  rw [decide_eq_true_eq] at r2
  obtain ⟨u,hu⟩:=adj_prev (ysX_asc a x) hy (ysX_mem.2 ⟨r,r1,.inr r2,.inl rfl⟩) (by omega)
  obtain ⟨c1,c2⟩:=col_const ha hx hu
  obtain ⟨k1,k2,_⟩:=down_kind (x:=x) (adj_lt (ysX_asc a x) hu)
  exact ⟨((x,y),(x,u)),(bd_mem ha).2 (.inr (.inr (.inr ⟨x,hx,u,y,hu,rfl,c2.trans h1,c1.trans h2⟩))),rfl,k1,k2⟩
 ·obtain ⟨h1,h2⟩:=h
  have h1':=h1
  rw [← left_in_cell ha hx] at h1'
  obtain ⟨r,hr,hr2⟩:=List.any_eq_true.1 h1'
  rw [Bool.and_eq_true,decide_eq_true_eq,decide_eq_true_eq] at hr2
  obtain ⟨r1,r2⟩:=List.mem_filter.1 hr
  rw [decide_eq_true_eq] at r2
  obtain ⟨v,hv⟩:=adj_next (ysX_asc a x) hy (ysX_mem.2 ⟨r,r1,.inl r2,.inr rfl⟩) (by omega)
  obtain ⟨k1,k2,_⟩:=up_kind (x:=x) (adj_lt (ysX_asc a x) hv)
  exact ⟨((x,y),(x,v)),(bd_mem ha).2 (.inr (.inr (.inl ⟨x,hx,y,v,hv,rfl,h1,h2⟩))),rfl,k1,k2⟩
theorem rect_uni {r s:Rect} (hr:r∈a) (hs:s∈a) (hx:r.x0=s.x0∨r.x1=s.x1) (hy:r.y0=s.y0∨r.y1=s.y1):r=s:=by
 have h1:=ha.pos r hr
 have h2:=ha.pos s hs
 rcases ha.two r hr s hs with q | q | ⟨_,_,q | q | q⟩
 ·omega
 ·omega
 ·exact q
 ·omega
 ·omega
theorem bd_uni {s t:Sd} (hs:s∈bdL a) (ht:t∈bdL a) (h:s.1=t.1∨s.2=t.2) (h1:upS s=upS t) (h2:fwS s=fwS t):s=t:=by
 rcases (bd_mem ha).1 hs with ⟨r,hr,rfl⟩ | ⟨r,hr,rfl⟩ | ⟨x,hx,u,v,k1,rfl,_,_⟩ | ⟨x,hx,u,v,k1,rfl,_,_⟩ <;>
 rcases (bd_mem ha).1 ht with ⟨r',hr',rfl⟩ | ⟨r',hr',rfl⟩ | ⟨x',hx',u',v',k1',rfl,_,_⟩ | ⟨x',hx',u',v',k1',rfl,_,_⟩
 ·have:r=r':=by
   refine rect_uni ha hr hr' ?_ ?_ <;> rcases h with h | h <;> simp only [botR,Prod.mk.injEq] at h <;> omega
  rw [this]
 ·rw [(bot_kind ha hr).2.1,(top_kind ha hr').2.1] at h2;cases h2
 ·rw [(bot_kind ha hr).1,(up_kind (x:=x') (adj_lt (ysX_asc a x') k1')).1] at h1;cases h1
 ·rw [(bot_kind ha hr).1,(down_kind (x:=x') (adj_lt (ysX_asc a x') k1')).1] at h1;cases h1
 ·rw [(top_kind ha hr).2.1,(bot_kind ha hr').2.1] at h2;cases h2
 ·have:r=r':=by
   refine rect_uni ha hr hr' ?_ ?_ <;> rcases h with h | h <;> simp only [topR,Prod.mk.injEq] at h <;> omega
  rw [this]
 ·rw [(top_kind ha hr).1,(up_kind (x:=x') (adj_lt (ysX_asc a x') k1')).1] at h1;cases h1
 ·rw [(top_kind ha hr).1,(down_kind (x:=x') (adj_lt (ysX_asc a x') k1')).1] at h1;cases h1
 ·rw [(bot_kind ha hr').1,(up_kind (x:=x) (adj_lt (ysX_asc a x) k1)).1] at h1;cases h1
 ·rw [(top_kind ha hr').1,(up_kind (x:=x) (adj_lt (ysX_asc a x) k1)).1] at h1;cases h1
 ·simp only [Prod.mk.injEq] at h
  have ex:x=x':=by rcases h with h | h <;> exact h.1
  subst ex
  rcases h with ⟨_,h⟩ | ⟨_,h⟩
  ·subst h;rw [adj_unr (ysX_asc a x) k1 k1']
  ·subst h;rw [adj_unl (ysX_asc a x) k1 k1']
 ·rw [(up_kind (x:=x) (adj_lt (ysX_asc a x) k1)).2.1,(down_kind (x:=x') (adj_lt (ysX_asc a x') k1')).2.1] at h2;cases h2
 ·rw [(bot_kind ha hr').1,(down_kind (x:=x) (adj_lt (ysX_asc a x) k1)).1] at h1;cases h1
 ·rw [(top_kind ha hr').1,(down_kind (x:=x) (adj_lt (ysX_asc a x) k1)).1] at h1;cases h1
 ·rw [(down_kind (x:=x) (adj_lt (ysX_asc a x) k1)).2.1,(up_kind (x:=x') (adj_lt (ysX_asc a x') k1')).2.1] at h2;cases h2
 ·simp only [Prod.mk.injEq] at h
  have ex:x=x':=by rcases h with h | h <;> exact h.1
  subst ex
  rcases h with ⟨_,h⟩ | ⟨_,h⟩
  ·subst h;rw [adj_unl (ysX_asc a x) k1 k1']
  ·subst h;rw [adj_unr (ysX_asc a x) k1 k1']
end
end Go.Proofs.YtnhdabelepjgbaaGreat.Rg
namespace Go.Proofs.YtnhdabelepjgbaaGreat.Rg
def qIn (ne se nw sw:Bool):Bool→Bool→Bool
 | false,true=>nw && !sw
 | false,false=>se && !ne
 | true,true=>sw && !se
 | true,false=>ne && !nw
def qOut (ne se nw sw:Bool):Bool→Bool→Bool
 | false,true=>ne && !se
 | false,false=>sw && !nw
 | true,true=>nw && !ne
 | true,false=>se && !sw
def leftF (o f:Bool):Bool:=if o then !f else f
theorem qIn_iff {a:List Rect} {x y:Int} {o f:Bool}:QIn a x y o f↔qIn (cell a x y) (cell a x (y-1)) (cell a (x-1) y) (cell a (x-1) (y-1)) o f=true:=by
 cases o <;> cases f <;> unfold QIn qIn <;> simp
theorem qOut_iff {a:List Rect} {x y:Int} {o f:Bool}:QOut a x y o f↔qOut (cell a x y) (cell a x (y-1)) (cell a (x-1) y) (cell a (x-1) (y-1)) o f=true:=by
 cases o <;> cases f <;> unfold QOut qOut <;> simp
theorem q_next:∀ ne se nw sw o f:Bool,qIn ne se nw sw o f=true→qOut ne se nw sw (!o) (leftF o f)=true∨((∃ o' f':Bool,qOut ne se nw sw o' f'=true)∧∀ o1 f1 o2 f2:Bool,qOut ne se nw sw o1 f1=true→qOut ne se nw sw o2 f2=true→o1=o2∧f1=f2):=by decide
theorem q_rev:∀ ne se nw sw o f g:Bool,qIn ne se nw sw o f=true→qOut ne se nw sw o g=true→f=g:=by decide
theorem q_two:∀ ne se nw sw o f p g:Bool,qIn ne se nw sw o f=true→qIn ne se nw sw p g=true→¬ (o=p∧f=g)→qOut ne se nw sw (!o) (leftF o f)=true:=by decide
theorem left_turn {s t:Sd} (hs:stS s) (ht:stS t) (h1:upS t = !upS s) (h2:fwS t=leftF (upS s) (fwS s)):0<turnI s t:=by
 cases q:upS s
 ·rw [q] at h1 h2
  rw [turn_ho hs ht q h1,if_pos (show fwS s=fwS t from by rw [h2];rfl)]
  decide
 ·rw [q] at h1 h2
  rw [turn_up hs ht q h1,if_neg (fun e=>by rw [h2] at e;unfold leftF at e;cases x:fwS s <;> rw [x] at e <;> simp at e)]
  decide
theorem nodup_fm {α β:Type} {f:α→List β}:∀ {l:List α},l.Nodup→(∀ x∈l,(f x).Nodup)→(∀ x∈l,∀ y∈l,x≠y→∀ z,z∈f x→z ∉ f y)→(l.flatMap f).Nodup
 | [],_,_,_=>List.nodup_nil
 | x :: l,h,h1,h2=>by
  rw [List.nodup_cons] at h
  rw [List.flatMap_cons,List.nodup_append]
  refine ⟨h1 x (List.mem_cons_self ..),nodup_fm h.2 (fun y hy=>h1 y (List.mem_cons_of_mem _ hy)) fun y hy z hz=>h2 y (List.mem_cons_of_mem _ hy) z (List.mem_cons_of_mem _ hz),fun u hu v hv huv=>?_⟩
  obtain ⟨y,hy,hyv⟩:=List.mem_flatMap.1 hv
  subst huv
  exact h2 x (List.mem_cons_self ..) y (List.mem_cons_of_mem _ hy) (fun e=>h.1 (e ▸ hy)) u hu hyv
theorem up_nodup (x:Int) (L R:List Rect):∀ {ys:List Int},ys.Pairwise (· < ·)→(upL x L R ys).Nodup
 | [],_=>List.nodup_nil
 | [_],_=>List.nodup_nil
 | c :: d :: ys,h=>by
  have hcd:c<d:=(List.pairwise_cons.1 h).1 d (List.mem_cons_self ..)
  have ih:=up_nodup x L R (List.pairwise_cons.1 h).2
  have hge:∀ u v,adjL (d :: ys) u v→d≤u:=fun u v k=>by
   rcases List.mem_cons.1 (adj_mem k).1 with q | q
   ·omega
   ·have:=(List.pairwise_cons.1 (List.pairwise_cons.1 h).2).1 u q
    omega
  show ((if (inY L c && !inY R c)=true then [((x,c),(x,d))] else if (inY R c && !inY L c)=true then [((x,d),(x,c))] else [])++upL x L R (d :: ys)).Nodup
  rw [List.nodup_append]
  refine ⟨?_,ih,fun s hs t ht hst=>?_⟩
  ·split
   ·simp
   ·split <;> simp
  ·subst hst
   obtain ⟨u,v,k,k2⟩:=up_mem.1 ht
   have h1:=hge u v k
   have h2:=adj_lt (List.pairwise_cons.1 h).2 k
   have hs':s=((x,c),(x,d))∨s=((x,d),(x,c)):=by
    split at hs
    ·exact .inl (List.mem_singleton.1 hs)
    ·split at hs
     ·exact .inr (List.mem_singleton.1 hs)
     ·cases hs
   rcases hs' with e | e <;> rcases k2 with ⟨e2,_⟩ | ⟨e2,_⟩ <;> rw [e] at e2 <;> simp only [Prod.mk.injEq] at e2 <;> omega
section
variable {a:List Rect} (ha:Apart a)
include ha
theorem bd_nodup:(bdL a).Nodup:=by
 unfold bdL
 rw [List.nodup_append]
 refine ⟨?_,?_,fun s hs t ht hst=>?_⟩
 ·unfold bdH
  refine nodup_fm ha.nd (fun r hr=>?_) fun r hr s hs hrs z hz hz2=>?_
  ·have:=ha.pos r hr
   rw [List.nodup_cons]
   refine ⟨fun h=>?_,by simp⟩
   have h:=List.mem_singleton.1 h
   unfold botR topR at h
   simp only [Prod.mk.injEq] at h
   omega
  ·have hr':=bot_kind ha hr
   have hr2:=top_kind ha hr
   have hs':=bot_kind ha hs
   have hs2:=top_kind ha hs
   have b1:botR r∈bdL a:=(bd_mem ha).2 (.inl ⟨r,hr,rfl⟩)
   simp only [List.mem_cons,List.not_mem_nil,or_false] at hz hz2
   rcases hz with e | e <;> rcases hz2 with e2 | e2 <;> rw [e] at e2
   ·refine hrs (rect_uni ha hr hs ?_ ?_) <;> simp only [botR,Prod.mk.injEq] at e2 <;> omega
   ·rw [e2] at hr';rw [hs2.2.1] at hr';cases hr'.2.1
   ·rw [e2] at hr2;rw [hs'.2.1] at hr2;cases hr2.2.1
   ·refine hrs (rect_uni ha hr hs ?_ ?_) <;> simp only [topR,Prod.mk.injEq] at e2 <;> omega
 ·have hxn:(xsB a).Nodup:=(sortU_asc _).imp fun h=>by omega
  refine nodup_fm hxn (fun x _=>up_nodup x _ _ (ysX_asc a x)) fun x _ y _ hxy z hz hz2=>?_
  obtain ⟨u,v,_,k1⟩:=up_mem.1 hz
  obtain ⟨u',v',_,k2⟩:=up_mem.1 hz2
  refine hxy ?_
  rcases k1 with ⟨e,_⟩ | ⟨e,_⟩ <;> rcases k2 with ⟨e2,_⟩ | ⟨e2,_⟩ <;> rw [e] at e2 <;> simp only [Prod.mk.injEq] at e2 <;> omega
 ·subst hst
  obtain ⟨r,hr,h⟩:=List.mem_flatMap.1 hs
  obtain ⟨x,hx,h2⟩:=List.mem_flatMap.1 ht
  obtain ⟨u,v,_,k⟩:=up_mem.1 h2
  have:=ha.pos r hr
  simp only [List.mem_cons,List.not_mem_nil,or_false] at h
  rcases h with e | e <;> rcases k with ⟨e2,_⟩ | ⟨e2,_⟩ <;> rw [e] at e2 <;> simp only [botR,topR,Prod.mk.injEq] at e2 <;> omega
theorem bd_net:Net (bdL a) where
 nd:=bd_nodup ha
 st s hs:=(bd_told ha hs).1
 out1 s hs t ht h h1 h2:=bd_uni ha hs ht (.inl h) h1 h2
 in1 s hs t ht h h1 h2:=bd_uni ha hs ht (.inr h) h1 h2
 rev s hs t ht h h1:=by
  have k1:=(bd_told ha hs).2.1.1
  have k2:=(bd_told ha ht).2.2
  rw [← h,qOut_iff,← h1] at k2
  rw [qIn_iff] at k1
  exact q_rev _ _ _ _ _ _ _ k1 k2
 nxt s hs:=by
  obtain ⟨k0,⟨k1,k2,k3⟩,_⟩:=bd_told ha hs
  rw [qIn_iff] at k1
  rcases q_next _ _ _ _ _ _ k1 with h | ⟨⟨o,f,h⟩,hu⟩
  ·obtain ⟨t,t1,t2,t3,t4⟩:=out_ex ha k2 k3 (qOut_iff.2 h)
   exact .inl ⟨t,t1,t2,left_turn k0 (bd_told ha t1).1 t3 t4⟩
  ·obtain ⟨t,t1,t2,_,_⟩:=out_ex ha k2 k3 (qOut_iff.2 h)
   refine .inr ⟨⟨t,t1,t2⟩,fun t ht t' ht' e e'=>?_⟩
   have q1:=(bd_told ha ht).2.2
   have q2:=(bd_told ha ht').2.2
   rw [e,qOut_iff] at q1
   rw [e',qOut_iff] at q2
   obtain ⟨r1,r2⟩:=hu _ _ _ _ q1 q2
   exact bd_uni ha ht ht' (.inl (e.trans e'.symm)) r1 r2
 two s hs s' hs' hne h:=by
  obtain ⟨k0,⟨k1,k2,k3⟩,_⟩:=bd_told ha hs
  have q:=(bd_told ha hs').2.1.1
  rw [← h,qIn_iff] at q
  rw [qIn_iff] at k1
  have:=q_two _ _ _ _ _ _ _ _ k1 q fun e=>hne (bd_uni ha hs hs' (.inr h) e.1 e.2)
  obtain ⟨t,t1,t2,t3,t4⟩:=out_ex ha k2 k3 (qOut_iff.2 this)
  exact ⟨t,t1,t2,left_turn k0 (bd_told ha t1).1 t3 t4⟩
end
section
variable {a:List Rect} (ha:Apart a)
include ha
end
section
variable {a:List Rect} (ha:Apart a)
include ha
end
end Go.Proofs.YtnhdabelepjgbaaGreat.Rg
namespace Go.Proofs.YtnhdabelepjgbaaGreat.Bm
open Go Go.RowKit
structure Enc (α:Type) where
 e:α→Value
 one:∀ a,one (e a)=true
 set:∀ a n,settled (n+1) (e a)=true
 bel:∀ a d n,below (d+1) n (e a)=true
 fits:∀ a sz,fitsTT ⟨some false,sz⟩ (e a)=true
namespace Enc
variable {α:Type} {O:Enc α} {h:Heap} {l m:List α} {P:Program}
def vals (O:Enc α) (l:List α):List Value:=l.map O.e
def o (O:Enc α) (k:Option Bool) (l:List α):Value:=match k with | none=>.slice none 0 0 | some b=>lst b (O.vals l)
def Ok (k:Option Bool) (l:List α):Prop:=k=none→l=[]
theorem ok_some {b:Bool}:Ok (some b) l:=fun h=>by cases h
def row (O:Enc α) (t:TypeId) (l:List α):AObj:=.cells t (O.vals l) 1
def part (b n:Nat) (l:List α):Value:=.slice (some ⟨b,0,some l.length⟩) n l.length
def sl (b:Nat) (l:List α):Value:=.slice (some ⟨b,0,some l.length⟩) l.length l.length
def at_ (b:Nat) (l:List α) (i:Nat):Value:=.pointer (some ⟨b,i,some l.length⟩)
theorem vals_len:(O.vals l).length=l.length:=List.length_map _
theorem vals_app:O.vals (l++m)=O.vals l++O.vals m:=List.map_append
theorem e_cells (a:α):cellsL (O.e a)=[O.e a]:=by
 have:=O.one a
 unfold cellsL
 split
 ·rename_i h;rw [h] at this;cases this
 ·rfl
theorem e_cellsOf (a:α):cellsOf (O.e a)=some [O.e a]:=by
 have:=O.one a
 unfold cellsOf
 split
 ·rename_i h;rw [h] at this;cases this
 ·rename_i h;rw [h] at this;cases this
 ·rename_i h;rw [h] at this;cases this
 ·rfl
theorem vals_all (l:List α):(O.vals l).all (fun v=>(cellsL v).length == 1)=true:=by
 rw [List.all_eq_true]
 intro v hv
 obtain ⟨a,_,rfl⟩:=List.mem_map.1 hv
 rw [e_cells];rfl
theorem vals_set (l:List α):(O.vals l).all (settled 8)=true:=by
 rw [List.all_eq_true]
 intro v hv
 obtain ⟨a,_,rfl⟩:=List.mem_map.1 hv
 exact O.set a 7
theorem vals_flat:∀ l:List α,(O.vals l).flatMap cellsL=O.vals l
 | []=>rfl
 | a :: l=>by
  show cellsL (O.e a)++(O.vals l).flatMap cellsL=O.e a :: O.vals l
  rw [e_cells,vals_flat l];rfl
theorem vals_get {i:Nat} (hi:i<l.length):(O.vals l)[i]?=some (O.e l[i]):=by
 unfold vals;rw [List.getElem?_map,List.getElem?_eq_getElem hi];rfl
theorem vals_take (n:Nat):(O.vals l).take n=O.vals (l.take n):=by unfold vals;rw [List.map_take]
theorem vals_put {i:Nat} {a:α}:(O.vals l).set i (O.e a)=O.vals (l.set i a):=by unfold vals;rw [List.map_set]
theorem o_len {k:Option Bool} (hk:Ok k l):lenT .sl h (O.o k l)=some (.int .i64 l.length):=by
 cases k with
 | none=>rw [hk rfl];rfl
 | some b=>show lenT .sl h (lst b (O.vals l))=_;rw [len_lst,vals_len]
theorem o_set {k:Option Bool} {n:Nat}:settled (n+1) (O.o k l)=true:=by cases k <;> rfl
theorem o_bel {k:Option Bool} {d n:Nat}:below (d+1) n (O.o k l)=true:=by cases k <;> rfl
theorem o_fits {k:Option Bool} {sz:Option Nat}:fitsTT ⟨some false,sz⟩ (O.o k l)=true:=by cases k <;> rfl
theorem o_reify {k:Option Bool} {n:Nat}:reify P (n+1) h (O.o k l)=some (O.o k l):=by cases k <;> rfl
theorem cells_tree {x:Bool}:sliceCells h 1 (lst x (O.vals l))=some (O.vals l,l.length):=by
 rw [cells_lst (vals_all l),vals_flat,vals_len]
theorem index_tree {x:Bool} {t:TypeId} {i:Nat} {k:IntKind} (hi:i<l.length):indexAddrT (.sl t ⟨some false,some 1⟩) (lst x (O.vals l)) (.int k (i:Int))=some (cptr (O.e l[i])):=by
 rw [index_lst,if_pos (by omega),Int.toNat_natCast,vals_get hi,Option.bind_some,O.fits,e_cells];rfl
theorem index_o {x:Option Bool} {t:TypeId} {i:Nat} {k:IntKind} (hx:Ok x l) (hi:i<l.length):indexAddrT (.sl t ⟨some false,some 1⟩) (O.o x l) (.int k (i:Int))=some (cptr (O.e l[i])):=by
 cases x with
 | none=>rw [hx rfl] at hi;exact absurd hi (Nat.not_lt_zero i)
 | some b=>exact index_tree hi
theorem row_bel {n:Nat} {t:TypeId}:belowO n (O.row t l)=true:=by
 show (O.vals l).all (below 8 n)=true
 rw [List.all_eq_true]
 intro v hv
 obtain ⟨a,_,rfl⟩:=List.mem_map.1 hv
 exact O.bel a 7 n
theorem sl_bel {n d b:Nat} (hb:b<n):below (d+1) n (sl b l)=true:=decide_eq_true hb
theorem sl_len {b:Nat}:lenT .sl h (sl b l)=some (.int .i64 l.length):=rfl
theorem part_index {b n i:Nat} {t:TypeId} {g:Option Bool} {k:IntKind} (hi:i<n):indexAddrT (.sl t ⟨g,some 1⟩) (part b n l) (.int k (i:Int))=some (at_ b l i):=by
 unfold part
 rw [index_slice,if_pos ⟨by omega,by omega⟩]
 show some (Value.pointer (some ⟨b,0+(i:Int).toNat * 1,some l.length⟩))=_
 rw [Int.toNat_natCast,Nat.mul_one,Nat.zero_add];rfl
theorem sl_index {b i:Nat} {t:TypeId} {g:Option Bool} {k:IntKind} (hi:i<l.length):indexAddrT (.sl t ⟨g,some 1⟩) (sl b l) (.int k (i:Int))=some (at_ b l i):=part_index hi
theorem row_of {b n:Nat} {t:TypeId} (hob:h[b]?=some (O.row t l)) (hn:n=l.length) {off:Nat}:rowOf h ⟨b,off,some n⟩=some (O.vals l):=by
 subst hn
 unfold rowOf
 show (match h[b]? with | some (.cells _ c g)=>_ | _=>none)=_
 rw [hob]
 show (if stampOk _ 1 (O.vals l).length=true then some (O.vals l) else none)=_
 rw [if_pos (by unfold stampOk;rw [vals_len];simp)]
theorem fits_row {b n:Nat} {t:TypeId} (hob:h[b]?=some (O.row t l)) (hn:n=l.length) {off:Nat}:fitsRow h ⟨b,off,some n⟩ 1=true:=by
 subst hn
 unfold fitsRow
 show (match h[b]? with | some (.cells _ c g)=>_ | _=>false)=true
 rw [hob]
 show (stampOk _ 1 (O.vals l).length && _)=true
 unfold stampOk;rw [vals_len];simp
theorem load_at {b i:Nat} {t:TypeId} {sz:Option Nat} (hob:h[b]?=some (O.row t l)) (hi:i<l.length):loadT ⟨some false,sz⟩ h (at_ b l i)=some (O.e l[i]):=by
 unfold at_
 rw [load_one,row_of hob rfl,Option.bind_some]
 exact vals_get hi
theorem store_at {b i lo:Nat} {t:TypeId} {a:α} (hob:h[b]?=some (O.row t l)) (hlo:lo≤b) (hi:i<l.length):storeT (some 1) h lo (O.e a) (at_ b l i)=some (h.set b (O.row t (l.set i a))):=by
 unfold at_
 rw [store_ptr,e_cellsOf,Option.bind_some,if_pos (show 1=[O.e a].length from rfl)]
 have hob':h[b]?=some (.cells t (O.vals l) 1):=hob
 unfold wrN
 show (match h[b]? with | some (.cells t c g)=>_ | _=>none)=_
 rw [hob']
 show (if _ then _ else none)=_
 rw [if_pos ⟨hlo,by unfold stampOk;rw [vals_len];simp,by simp,by rw [vals_len];simp;omega⟩]
 show some (h.set b (.cells t (splice (O.vals l) i [O.e a]) 1))=_
 rw [splice_one (by rw [vals_len];exact hi),vals_put];rfl
theorem reify_part {b n d:Nat} {t:TypeId} (hob:h[b]?=some (O.row t l)) (hn:n≤l.length) (hs:szOf P t=some 1) (ha:aggT P t=some false):reify P (d+1) h (part b n l)=some (lst false (O.vals (l.take n))):=by
 unfold part
 rw [reify_slice]
 by_cases h0:n=0
 ·subst h0;rfl
 ·rw [if_neg h0]
  show reifyS P d h h[b]? _ _=_
  rw [hob]
  show reifyS P d h (some (.cells t (O.vals l) 1)) _ _=_
  rw [reifyS_cells,hs,Option.bind_some,if_pos ⟨by unfold stampOk;rw [vals_len];simp,Nat.one_pos,by rw [vals_len];simp;omega⟩,List.drop_zero,Nat.mul_one,vals_take,
   reifyC_set (vals_set _),Option.bind_some,elems_one ha hs];rfl
theorem reify_sl {b d:Nat} {t:TypeId} (hob:h[b]?=some (O.row t l)) (hs:szOf P t=some 1) (ha:aggT P t=some false):reify P (d+1) h (sl b l)=some (lst false (O.vals l)):=by
 have:=reify_part (P:=P) (d:=d) hob (Nat.le_refl l.length) hs ha
 rw [List.take_length] at this
 exact this
theorem reifyR_sl {b:Nat} {t:TypeId} (hob:h[b]?=some (O.row t l)) (hs:szOf P t=some 1) (ha:aggT P t=some false):reifyR P h (sl b l)=some (lst false (O.vals l)):=reify_sl hob hs ha
theorem frz_part {b n lo:Nat} {t:TypeId} (hob:h[b]?=some (O.row t l)) (hn:n≤l.length) (hs:szOf P t=some 1) (ha:aggT P t=some false) (hlo:lo≤b) :
  freezeV P depth lo h (part b n l)=some (lst false (O.vals (l.take n)),if n=0 then h else h.set b .dead):=by
 have e:((O.vals l).drop 0).take (n * 1)=O.vals (l.take n):=by rw [List.drop_zero,Nat.mul_one,vals_take]
 exact frz_row1 (a:=⟨b,0,some l.length⟩) (t:=t) (c:=O.vals l) (g:=1) hob hs hlo (by unfold stampOk;rw [vals_len];simp) Nat.one_pos (by rw [vals_len];simp;omega) (by rw [e];exact vals_set _)
  (by rw [e];exact elems_one ha hs) (by rw [vals_len,List.length_take];omega)
theorem app {el:El} {lo b:Nat} {t:TypeId} {u:Value} (hel:el.size=1) (hob:h[b]?=some (O.row t l)) (hu:sliceCells h 1 u=some (O.vals m,m.length)) (hlo:lo≤b) (hb:(l.length+m.length) * el.bytes≤2 ^ 47) :
  appendT (some el) h lo false (sl b l) u=some (sl b (l++m),h.set b (O.row t (l++m))):=by
 have hob':h[b]?=some (.cells t (O.vals l) 1):=hob
 unfold sl
 rw [append_slice,hel,hu]
 show appS el h lo false _ _ _ h[b]? _=_
 by_cases hm:m.length=0
 ·have:m=[]:=List.eq_nil_of_length_eq_zero hm
  subst this
  have hf:fitsRow h ⟨b,0,some l.length⟩ el.size=true:=by rw [hel];exact fits_row hob rfl
  unfold appS
  simp only [List.append_nil,List.length_nil,Nat.add_zero,Nat.le_refl,if_true,hf,Option.bind_some]
  congr 2
  refine (List.ext_getElem? fun i=>?_)
  rw [List.getElem?_set]
  split
  ·rename_i e;subst e
   split
   ·exact hob
   ·rename_i hlt;rw [List.getElem?_eq_none (by omega)]
  ·rfl
 ·rw [hob']
  refine (appS_grown (m:=m.length) hm vals_len.symm rfl hel (by rw [vals_len];omega) hlo hb).trans ?_
  unfold row
  rw [vals_app,List.length_append,vals_len,vals_len,List.length_append]
theorem app_nil {el:El} {lo:Nat} {st:Bool} {u:Value} (hel:el.size=1) (hu:sliceCells h 1 u=some (O.vals m,m.length)) (hm:m≠[]) (hb:m.length * el.bytes≤2 ^ 47) :
  appendT (some el) h lo st (.slice none 0 0) u=some (sl h.length m,h++[O.row el.e m]):=by
 have hm0:m.length≠0:=fun e=>hm (List.eq_nil_of_length_eq_zero e)
 rw [append_nil,hel,hu]
 simp only [Option.bind_some]
 rw [if_neg hm0,if_pos hb,vals_len];rfl
end Enc
def intE:Enc Int:=⟨.int .i64,fun _=>rfl,fun _ _=>rfl,fun _ _ _=>rfl,fun _ _=>rfl⟩
variable {h:Heap} {P:Program}
def cAt (b j:Nat):Value:=.pointer (some ⟨b,j,none⟩)
theorem obj_row {b:Nat} {t:TypeId} {c:List Value} (hob:h[b]?=some (.cells t c 0)) {j:Nat}:rowOf h ⟨b,j,none⟩=some c:=by
 unfold rowOf
 show (match h[b]? with | some (.cells _ c g)=>_ | _=>none)=_
 rw [hob];rfl
theorem obj_load {b j:Nat} {t:TypeId} {c:List Value} {v:Value} {sz:Option Nat} (hob:h[b]?=some (.cells t c 0)) (hc:c[j]?=some v):loadT ⟨some false,sz⟩ h (cAt b j)=some v:=by
 unfold cAt
 rw [load_one,obj_row hob,Option.bind_some,hc]
theorem obj_store {b j lo:Nat} {t:TypeId} {c:List Value} {v:Value} (hob:h[b]?=some (.cells t c 0)) (hj:j<c.length) (hlo:lo≤b) (hv:cellsOf v=some [v]):storeT (some 1) h lo v (cAt b j)=some (h.set b (.cells t (c.set j v) 0)):=by
 unfold cAt
 rw [store_ptr,hv,Option.bind_some,if_pos (show 1=[v].length from rfl)]
 unfold wrN
 show (match h[b]? with | some (.cells t c g)=>_ | _=>none)=_
 rw [hob]
 show (if _ then _ else none)=_
 rw [if_pos ⟨hlo,rfl,by simp,by simp;omega⟩]
 show some (h.set b (.cells t (splice c j [v]) 0))=_
 rw [splice_one hj]
theorem obj_frz {b lo:Nat} {t:TypeId} {c:List Value} (hob:h[b]?=some (.cells t c 0)) (hs:szOf P t=some c.length) (ha:aggT P t=some true) (hlo:lo≤b) (hc:c.all (settled 8)=true) :
  freezeV P depth lo h (cAt b 0)=some (cptr (.agg ⟨c⟩),h.set b .dead):=by
 unfold cAt
 rw [frz_ptr8 hob hs ha hlo,if_pos hc];rfl
theorem isCp_cptr {v:Value}:isCp (cptr v)=true:=rfl
theorem rop_loadC {E:Env} {C:Callee} {lo:Nat} {k:TI} {x:Operand} {ρ:Operand→Value} (hc:isCp (ρ x)=true):ropR E C lo true (.load k x) ρ h=(loadT k h (ρ x)).map (·,h):=by
 show (if (true && !(isCp (ρ x) || isLow lo h (ρ x)))=true then none else _)=_
 rw [hc];rfl
open Rg (Rect Pt sortU inY ysB upL)
def inRy (y:Int) (r:Rect):Bool:=decide (r.y0≤y) && decide (y<r.y1)
theorem inY_any (l:List Rect) (y:Int):inY l y=l.any (inRy y):=rfl
theorem in1_spec (r:Rect) (y:Int):pureCall E.P (L E) 82 [rectR.val r,cptr (.int .i64 y)]=some (.bool (inRy y r)):=by
 rw [pureCall_fn F82 rfl]
 unfold inRy
 by_cases h1:r.y0≤y
 ·simp -implicitDefEqProofs [r82,p82,rect_val,h1]
 ·simp -implicitDefEqProofs [r82,p82,rect_val,h1]
theorem indexI_spec (k:Option Bool) (l:List Rect) (y:Int) (hk:Rec.Ok k l) (hl:l.length≤1000000):L E 99 [rectR.o k l,.func (.func 82) ⟨[]⟩ ⟨[cptr (.int .i64 y)]⟩] [] 0=some (.int .i64 (firstP (inRy y) l 0),[]):=by
 rw [L_fn F99 rfl]
 simp -implicitDefEqProofs [r99,padS,Rec.o_len hk]
 rw [LL_for (γ:=Unit) l () (fun i _=>[(8,.int .i64 i)]) (fun _ _=>[]) (fun i rest _=>if rest.any (inRy y) then (.ret,[(4,.int .i64 (firstP (inRy y) rest i)),(8,undef)],[]) else (.exit 0,[(8,undef)],[])) (fun _ _=>True) (by omega) trivial]
 ·cases h:l.any (inRy y)
  ·have hm:=firstP_none (inRy y) l 0 h
   simp -implicitDefEqProofs [k99_2,hm]
  ·simp -implicitDefEqProofs [k99_2,h]
 ·simp -implicitDefEqProofs [k99_2]
 ·rfl
 ·intro nx i c hi _
  simp -implicitDefEqProofs [r99_2,k99_2,hi,Rec.o_len hk,trim_le]
 ·intro nx i r rest c hi hv hd hw _ ih
  have ih:=ih () trivial
  have ixi:=Rec.o_index (R:=rectR) (t:=39) (kk:=.i64) (s:=4) rfl hk hi
  rw [hv] at ixi
  have h1:=in1_spec r y
  rw [rect_val] at h1
  have e:(r :: rest).any (inRy y)=(inRy y r || rest.any (inRy y)):=rfl
  have e2:firstP (inRy y) (r :: rest) i=if inRy y r then (i:Int) else firstP (inRy y) rest (i+1):=rfl
  rw [e,e2]
  simp -implicitDefEqProofs [k99_2] at ih
  cases h:inRy y r
  ·simp -implicitDefEqProofs [r99_2,k99_2,hi,ixi,Rec.o_len hk,rect_val,ret0 m82,h1,h,hw,trim_le]
   exact ih
  ·simp -implicitDefEqProofs [r99_2,k99_2,hi,ixi,Rec.o_len hk,rect_val,ret0 m82,h1,h,trim_le]
theorem containsI_spec (k:Option Bool) (l:List Rect) (y:Int) (hk:Rec.Ok k l) (hl:l.length≤1000000):pureCall E.P (L E) 81 [rectR.o k l,.func (.func 82) ⟨[]⟩ ⟨[cptr (.int .i64 y)]⟩]=some (.bool (inY l y)):=by
 have key:=indexI_spec k l y hk hl
 have hn:=firstP_nonneg (inRy y) l 0
 rw [← inY_any] at hn
 rw [pureCall_fn F81 rfl]
 simp -implicitDefEqProofs [r81,padS,ret2 m99,key,hn]
theorem in_spec (k:Option Bool) (l:List Rect) (y:Int) (hk:Rec.Ok k l) (hl:l.length≤1000000):pureCall E.P (L E) 80 [rectR.o k l,.int .i64 y]=some (.bool (inY l y)):=by
 have h1:=containsI_spec k l y hk hl
 have a3:aggT E.P 3=some false:=by kernel_rfl
 have wp:∀ v,wrapP (some false) [v]=some (cptr v):=fun _=>rfl
 rw [pureCall_fn F80 rfl]
 simp -implicitDefEqProofs [r80,padS,ret0 m81,Rec.o_reify,h1,s3,a3,wp]
def yL (l:List Rect):List Int:=l.flatMap fun r=>[r.y0,r.y1]
theorem yL_cons (r:Rect) (l:List Rect):yL (r :: l)=[r.y0,r.y1]++yL l:=rfl
theorem yL_len (l:List Rect):(yL l).length=2 * l.length:=by
 induction l with
 | nil=>rfl
 | cons r l ih =>
  have e2:(r :: l).length=l.length+1:=rfl
  have e3:[r.y0,r.y1].length=2:=rfl
  rw [yL_cons,List.length_append,ih,e2,e3];omega
theorem flat_ints (l:List Int):intR.flat l=intE.vals l:=by
 induction l with
 | nil=>rfl
 | cons z l ih=>exact congrArg (Value.int .i64 z :: ·) ih
theorem frz_pre {h:Heap} {b n lo:Nat} {e r:List Int} (hob:h[b]?=some (intR.row 3 (e++r))) (hn:(e++r).length=n) (hlo:lo≤b) :
  ∃ h',freezeV E.P depth lo h (preS b n e)=some (lst false (intE.vals e),h')∧h'=(if e.length=0 then h else h.set b .dead):=by
 subst hn
 have key:=Enc.frz_part (P:=E.P) (O:=intE) (h:=h) (b:=b) (n:=e.length) (lo:=lo) (t:=3) (l:=e++r) (hob.trans (congrArg some (show intR.row 3 (e++r)=intE.row 3 (e++r) by unfold Rec.row Enc.row;congr 1;exact flat_ints _))) (by rw [List.length_append];omega) s3 (by kernel_rfl) hlo
 rw [List.take_left] at key
 exact ⟨_,key,rfl⟩
theorem zS:szOf E.P 48=some 4:=by kernel_rfl
theorem bPt {a b:Int}:buildT (Bl.fs ⟨[.int .i64 0,.int .i64 0]⟩ ⟨[(0,1),(1,1)]⟩) #[(0,.int .i64 a),(1,.int .i64 b)]=some (.agg ⟨[.int .i64 a,.int .i64 b]⟩):=rfl
theorem bSd {a b c d:Int}:buildT (Bl.fs ⟨[.int .i64 0,.int .i64 0,.int .i64 0,.int .i64 0]⟩ ⟨[(0,2),(2,2)]⟩) #[(0,.agg ⟨[.int .i64 a,.int .i64 b]⟩),(1,.agg ⟨[.int .i64 c,.int .i64 d]⟩)]=some (.agg ⟨[.int .i64 a,.int .i64 b,.int .i64 c,.int .i64 d]⟩):=rfl
theorem lit_side (h:Heap) (a b c d:Int):buildSliceT (some ⟨48,4,32,.agg ⟨[.int .i64 0,.int .i64 0,.int .i64 0,.int .i64 0]⟩,⟨some true,some 4⟩⟩) false h 1 #[(0,.agg ⟨[.int .i64 a,.int .i64 b,.int .i64 c,.int .i64 d]⟩)]=some (lst true [.agg ⟨[.int .i64 a,.int .i64 b,.int .i64 c,.int .i64 d]⟩],h) :=
 (build_lit' (n:=1) (l:=[(0,.agg ⟨[.int .i64 a,.int .i64 b,.int .i64 c,.int .i64 d]⟩)]) rfl rfl (by decide) (by decide) (by decide)).trans rfl
theorem app_side {h:Heap} {b lo:Nat} {c:List (Pt × Pt)} (s:Pt × Pt) (hob:h[b]?=some (sideR.row 48 c)) (hlo:lo≤b) (hc:c.length≤1000000) :
  appendT (some ⟨48,4,32,.agg ⟨[.int .i64 0,.int .i64 0,.int .i64 0,.int .i64 0]⟩,⟨some true,some 4⟩⟩) h lo false (sideR.sl b c) (lst true [.agg ⟨[.int .i64 s.1.1,.int .i64 s.1.2,.int .i64 s.2.1,.int .i64 s.2.2]⟩])=some (sideR.sl b (c++[s]),h.set b (sideR.row 48 (c++[s]))) :=
 Rec.app (R:=sideR) (m:=[s]) rfl hob (Rec.cells_tree (R:=sideR) rfl [s]) hlo (by show (c.length+1) * 32≤2 ^ 47;omega)
theorem upL_end {x:Int} {A B:List Rect} {ys:List Int} {i:Nat} (h:¬ i+1<ys.length):upL x A B (ys.drop i)=[]:=by
 have hl:(ys.drop i).length≤1:=by rw [List.length_drop];omega
 match ys.drop i,hl with
 | [],_=>rfl
 | [_],_=>rfl
theorem upright_spec (x:Int) (ka kb:Option Bool) (A B:List Rect) (hA:Rec.Ok ka A) (hB:Rec.Ok kb B) (hl:A.length+B.length≤1000) :
  pureCall E.P (L E) 55 [.int .i64 x,rectR.o ka A,rectR.o kb B]=some (lst false (sideR.vals (upL x A B (ysB A B)))):=by
 have hcat := rects_concat true [(ka, A), (kb, B)] (by intro p hp; rcases List.mem_cons.1 hp with e | e; · subst e; exact hA
                                                       ·rw [List.mem_singleton] at e;subst e;exact hB) (by show 2≤1000;decide) (by show A.length+(B.length+0)≤1000000;omega)
 have hal:allP [(ka,A),(kb,B)]=A++B:=by show A++(B++[])=A++B;rw [List.append_nil]
 have hok:Rec.Ok (if tot [(ka,A),(kb,B)]=0 then none else some false) (A++B):=by
  intro hk
  split at hk
  ·rename_i h0
   exact List.eq_nil_of_length_eq_zero (by rw [← hal,tot_all,h0])
  ·cases hk
 rw [hal] at hcat
 generalize (if tot [(ka,A),(kb,B)]=0 then none else some false)=kc at hcat hok
 have hcl:(A++B).length≤1000:=by rw [List.length_append];omega
 have inA:=fun y=>in_spec ka A y hA (by omega)
 have inB:=fun y=>in_spec kb B y hB (by omega)
 have rA:∀ h,reify E.P 8 h (rectR.o ka A)=some (rectR.o ka A):=fun h=>Rec.o_reify
 have rB:∀ h,reify E.P 8 h (rectR.o kb B)=some (rectR.o kb B):=fun h=>Rec.o_reify
 have bA:∀ d n,below (d+1) n (rectR.o ka A)=true:=fun d n=>Rec.o_bel
 have bB:∀ d n,below (d+1) n (rectR.o kb B)=true:=fun d n=>Rec.o_bel
 have st:settled depth (lst true [rectR.o ka A,rectR.o kb B])=true:=by
  cases ka <;> cases kb <;> rfl
 have li:=fun h=>lit_list2 h ka kb A B
 have hcat:pureCall E.P (L E) 79 [lst true [rectR.o ka A,rectR.o kb B]]=some (rectR.o kc (A++B)):=hcat
 have hys:ysB A B=sortU (yL (A++B)):=rfl
 rw [pureCall_fn F55 rfl,hys]
 generalize hVA:rectR.o ka A=VA at *
 generalize hVB:rectR.o kb B=VB at *
 generalize A++B=C at *
 simp -implicitDefEqProofs [r55,p55,prep_new,newK_nil s3,li,ret1 m79,hcat,st,Rec.o_len hok]
 rw [LL_for (γ:=List Int) C [] (fun i c=>[(7,intR.sl 0 c),(22,.int .i64 i)]) (fun _ c=>[intR.row 3 c])
  (fun _ rest c=>(.exit 0,[(7,intR.sl 0 (c++yL rest)),(22,undef)],[intR.row 3 (c++yL rest)])) (fun i c=>c.length=2 * i) (by omega) rfl]
 ·rw [List.nil_append]
  have hel:=yL_len C
  have so:=sortInts (h:=[intR.row 3 (yL C)]) (b:=0) (lo:=0) (d:=yL C) rfl (Nat.le_refl _) (by omega)
  obtain ⟨r,co,hr⟩:=compInts (h:=[intR.row 3 (sortI (yL C))]) (b:=0) (lo:=0) (d:=sortI (yL C)) rfl (Nat.le_refl _) (by rw [sortI_len];omega)
  rw [Rg.comp_sort] at co hr
  have e1:intR.sl 0 (sortI (yL C))=intR.sl 0 (yL C):=int_sl (sortI_len _)
  rw [e1,sortI_len] at co
  rw [sortI_len] at hr
  generalize sortU (yL C)=ys at *
  generalize hn:(yL C).length=n at *
  have hyn:ys.length≤40000:=by rw [List.length_append] at hr;omega
  obtain ⟨h',fz,hh⟩:=frz_pre (h:=[intR.row 3 (ys++r)]) (b:=0) (lo:=0) (n:=n) (e:=ys) rfl hr (Nat.le_refl _)
  obtain ⟨d,hd,bd⟩:∃ d,h'=[d]∧∀ n,belowO n d=true:=by
   rw [hh]
   split
   ·exact ⟨_,rfl,fun n=>Rec.row_bel _⟩
   ·exact ⟨_,rfl,fun n=>rfl⟩
  subst hd
  have ln:∀ h,lenT .sl h (lst false (intE.vals ys))=some (.int .i64 ys.length):=fun h=>Enc.o_len (O:=intE) (k:=some false) Enc.ok_some
  have ixy:∀ (i:Nat) (hi:i<ys.length),indexAddrT (.sl 3 ⟨some false,some 1⟩) (lst false (intE.vals ys)) (.int .i64 (i:Int))=some (cptr (.int .i64 ys[i])):=fun i hi=>Enc.index_tree (O:=intE) hi
  have bF:∀ d n,below (d+1) n (.func (.func 80) ⟨[]⟩ ⟨[]⟩)=true:=fun d n=>rfl
  have bC:∀ d n,below (d+1) n (rectR.o kc C)=true:=fun d n=>Rec.o_bel
  have bY:∀ d n,below (d+1) n (lst false (intE.vals ys))=true:=fun d n=>rfl
  have wl:IntKind.i64.wrap ((ys.length:Int)-1)=(ys.length:Int)-1:=wrap64 (by omega) (by omega)
  simp -implicitDefEqProofs [k55_3,ret2 (E:=E) (f:=18) rfl,ret2 (E:=E) (f:=19) rfl,so,co,prep_frz,fz,prep_new,newK_nil zS,ln,wl,max_int]
  generalize hVY:lst false (intE.vals ys)=VY at *
  clear so co hcat li st
  rw [LL_rec (α:=Nat × List (Pt × Pt)) (0,[]) (fun c=>[(11,sideR.sl 1 c.2),(42,.int .i64 (c.1:Int))]) (fun c=>[d,sideR.row 48 c.2])
   (fun c=>(.exit 2,[(11,sideR.sl 1 (c.2++upL x A B (ys.drop c.1))),(42,undef)],[d,sideR.row 48 (c.2++upL x A B (ys.drop c.1))])) (fun c=>c.1≤ys.length∧c.2.length≤c.1) (fun c=>ys.length-c.1)]
  ·have rr:=Rec.reify_row (R:=sideR) (P:=E.P) (h:=[d,sideR.row 48 (upL x A B ys)]) (b:=1) (n:=7) (t:=48) (l:=upL x A B ys) rfl zS (by kernel_rfl)
   have rr:reifyR E.P [d,sideR.row 48 (upL x A B ys)] (sideR.sl 1 (upL x A B ys))=_:=rr
   simp -implicitDefEqProofs [k55_12,rr]
  ·exact ⟨Nat.zero_le _,Nat.zero_le _⟩
  ·simp -implicitDefEqProofs [k55_12,Rec.sl_nil]
  ·rfl
  ·intro nx c hc ih
   obtain ⟨i,o⟩:=c
   obtain ⟨h1,h2⟩:=hc
   simp only at h1 h2
   by_cases hi:i+1<ys.length
   ·have hi':(i:Int)<max 0 ((ys.length:Int)-1):=by omega
    have wi:IntKind.i64.wrap ((i:Int)+1)=((i+1:Nat):Int):=(wrap64 (by omega) (by omega)).trans (by omega)
    have x0:=ixy i (by omega)
    have x1:=ixy (i+1) hi
    have hd:ys.drop i=ys[i] :: ys[i+1] :: ys.drop (i+2):=by
     rw [List.drop_eq_getElem_cons (show i<ys.length by omega),List.drop_eq_getElem_cons hi]
    have hd2:ys.drop (i+1)=ys[i+1] :: ys.drop (i+2):=List.drop_eq_getElem_cons hi
    have ek:upL x A B (ys[i] :: ys[i+1] :: ys.drop (i+2))=(if (inY A ys[i] && !inY B ys[i])=true then [((x,ys[i]),(x,ys[i+1]))] else if (inY B ys[i] && !inY A ys[i])=true then [((x,ys[i+1]),(x,ys[i]))] else [])++upL x A B (ys[i+1] :: ys.drop (i+2)):=rfl
    rw [hd,ek,← hd2,← List.append_assoc]
    have ihA:=ih (i+1,o++[((x,ys[i]),(x,ys[i+1]))]) (by show ys.length-(i+1)<ys.length-i;omega) ⟨by show i+1≤ys.length;omega,by show (o++[_]).length≤i+1;simp;omega⟩
    have ihB:=ih (i+1,o++[((x,ys[i+1]),(x,ys[i]))]) (by show ys.length-(i+1)<ys.length-i;omega) ⟨by show i+1≤ys.length;omega,by show (o++[_]).length≤i+1;simp;omega⟩
    have ihC:=ih (i+1,o) (by show ys.length-(i+1)<ys.length-i;omega) ⟨by show i+1≤ys.length;omega,by show o.length≤i+1;omega⟩
    have iA:=inA ys[i]
    have iB:=inB ys[i]
    generalize ys[i]=u at *
    generalize ys[i+1]=v at *
    have ap1:=fun a b=>app_side (h:=[d,sideR.row 48 o,a,b]) (b:=1) (lo:=0) (c:=o) ((x,u),(x,v)) rfl (Nat.zero_le _) (by omega)
    have ap2:=fun a b=>app_side (h:=[d,sideR.row 48 o,a,b]) (b:=1) (lo:=0) (c:=o) ((x,v),(x,u)) rfl (Nat.zero_le _) (by omega)
    simp -implicitDefEqProofs [k55_12,-List.append_assoc,-Int.natCast_add] at ihA ihB ihC
    cases qa:inY A u <;> cases qb:inY B u <;> rw [qa] at iA <;> rw [qb] at iB <;>
     simp -implicitDefEqProofs [r55_12,k55_12,hi',wi,x0,x1,prep_still,rop_loadC,isCp_cptr,bPt,ret0 m80,rA,rB,iA,iB,bSd,lit_side,ap1,ap2,trim_cut,bA,bB,bY,bC,bF,bd,pre_bel,Rec.sl_bel,Rec.row_bel,-List.append_assoc,-Int.natCast_add]
    ·exact ihC
    ·exact ihB
    ·exact ihA
    ·exact ihC
   ·have hi':¬ ((i:Int)<max 0 ((ys.length:Int)-1)):=by omega
    rw [upL_end hi,List.append_nil]
    simp -implicitDefEqProofs [r55_12,k55_12,hi',trim_le]
 ·simp -implicitDefEqProofs [k55_3,Rec.sl_nil]
 ·rfl
 ·intro nx i c hi _
  simp -implicitDefEqProofs [r55_3,k55_3,hi,trim_le,yL]
 ·intro nx i s rest c hi hv hd hw hc ih
  have ixi:=Rec.o_index (R:=rectR) (t:=39) (kk:=.i64) (s:=4) rfl hok hi
  rw [hv] at ixi
  have ap:=fun o=>app_two' (h:=[intR.row 3 c,o]) (b:=0) (lo:=0) (c:=c) s.y0 s.y1 rfl (Nat.le_refl _) (by omega)
  have ih:=ih (c++[s.y0,s.y1]) (by simp;omega)
  rw [yL_cons,← List.append_assoc]
  simp -implicitDefEqProofs [k55_3,-List.append_assoc] at ih
  simp -implicitDefEqProofs [r55_3,k55_3,hi,ixi,rect_val,lit_two,ap,hw,trim_cut,bA,bB,Rec.sl_bel,Rec.row_bel,Rec.o_bel,-List.append_assoc,-List.all_eq_true]
  exact ih
theorem LL_ex {k:List Nat × List Nat} {b:Body} {σ₀:Slots} {h₀:Heap} {α:Type} (a₀:α) (up:α→List (Nat × Value)) (H:α→Heap) (Q:Exit × Slots × Heap→Prop) (I:α→Prop) (ms:α→Nat)
  (hI:I a₀) (e0:sets (up a₀) (forget k.1 σ₀)=forget k.1 σ₀) (e1:H a₀=h₀)
  (step:∀ (nx:Body) a,I a→(∀ a',ms a'<ms a→I a'→∃ r,nx (sets (up a') (forget k.1 σ₀)) (H a')=some r∧Q r) →
   ∃ r,lopK k.1 k.2 nx (H a).length (b (forget k.1 (sets (up a) (forget k.1 σ₀))) (H a))=some r∧Q r) :
  ∃ r,LL k b σ₀ h₀=some r∧Q r:=by
 have key:∀ n a,ms a=n→I a→∃ r,LL k b (sets (up a) (forget k.1 σ₀)) (H a)=some r∧Q r:=by
  intro n
  induction n using Nat.strongRecOn with
  | _ n ih =>
   intro a ha hi
   rw [LL_go]
   exact step (LL k b) a hi fun a' hlt hi'=>ih (ms a') (by omega) a' rfl hi'
 have h:=key _ a₀ rfl hI
 rw [e0,e1] at h
 have e:LL k b (forget k.1 σ₀) h₀=LL k b σ₀ h₀:=by
  rw [LL_go,LL_go,forget_twice]
 rw [e] at h
 exact h
theorem LL_ux {k:List Nat × List Nat} {b:Body} {σ₀:Slots} {h₀:Heap} {α U:Type} (a₀:α) (up:α→List (Nat × Value)) (H:α→Heap) (e:Exit) (ups:U→List (Nat × Value)) (K:U→Heap→Prop) (I:α→Prop) (ms:α→Nat)
  (hI:I a₀) (e0:sets (up a₀) (forget k.1 σ₀)=forget k.1 σ₀) (e1:H a₀=h₀)
  (step:∀ (nx:Body) a,I a→(∀ a',ms a'<ms a→I a'→∃ u h',nx (sets (up a') (forget k.1 σ₀)) (H a')=fin (forget k.1 σ₀) (e,ups u,h')∧K u h') →
   ∃ u h',lopK k.1 k.2 nx (H a).length (b (forget k.1 (sets (up a) (forget k.1 σ₀))) (H a))=fin (forget k.1 σ₀) (e,ups u,h')∧K u h') :
  ∃ u h',LL k b σ₀ h₀=fin (forget k.1 σ₀) (e,ups u,h')∧K u h':=by
 obtain ⟨r,h1,u,h',h2,h3⟩:=LL_ex (k:=k) (b:=b) (σ₀:=σ₀) (h₀:=h₀) a₀ up H (fun r=>∃ u h',some r=fin (forget k.1 σ₀) (e,ups u,h')∧K u h') I ms hI e0 e1 fun nx a ha ih=>by
  obtain ⟨u,h',he,hk⟩:=step nx a ha fun a' hlt hi'=>by
   obtain ⟨r,h1,u,h',h2,h3⟩:=ih a' hlt hi'
   exact ⟨u,h',h1.trans h2,h3⟩
  exact ⟨_,he,u,h',rfl,hk⟩
 exact ⟨u,h',h1.trans h2,h3⟩
end Go.Proofs.YtnhdabelepjgbaaGreat.Bm
