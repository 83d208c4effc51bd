/-
 A region whose order is drawn: whatever order, what is behind it is what the order of the text gives. Conditions: what is called is sound; the region passes a test on its text ('okDraw').
-/
import Derived.Test.YtplebjehcgcdeaaGreatDoorQU09
import Derived.Still
namespace Go.Proofs.YtplebjehcgcdeaaGreatDoor.Bm
open Go Go.RowKit
def okDraw (ops:Array Oper):Bool :=
 let b:=Region.before ops
 (ops.toList.zipIdx.all fun (o,i)=>o.after.toList.all fun e=>!Region.binds .any e || decide (e.on<i)) &&
 (ops.toList.zipIdx.all fun (q,j)=>(ops.toList.zipIdx.take j).all fun (p,i)=>p.apart ops q || (b.getD j 0).testBit i)
theorem foldl_bit (acc:Array Nat) (p:Nat):∀ (l:List Edge) (s:Nat),(l.foldl (fun s (e:Edge)=>if Region.binds .any e then s ||| 2 ^ e.on ||| acc.getD e.on 0 else s) s).testBit p=true →
  s.testBit p=true∨∃ e∈l,Region.binds .any e=true∧(p=e.on∨(acc.getD e.on 0).testBit p=true)
 | [],s,h=>.inl h
 | e :: l,s,h=>by
  simp only [List.foldl_cons] at h
  rcases foldl_bit acc p l _ h with h1 | ⟨e',h1,h2⟩
  ·split at h1
   ·rename_i hb
    simp only [Nat.testBit_or,Bool.or_eq_true] at h1
    rcases h1 with (h1 | h1) | h1
    ·exact .inl h1
    ·rw [Nat.testBit_two_pow] at h1
     exact .inr ⟨e,by simp,hb,.inl (by simpa using h1:e.on=p).symm⟩
    ·exact .inr ⟨e,by simp,hb,.inr h1⟩
   ·exact .inl h1
  ·exact .inr ⟨e',by simp [h1],h2⟩
theorem before_bit (ops:Array Oper) {p q:Nat} (h:((Region.before ops).getD q 0).testBit p=true) :
  ∃ o,ops[q]?=some o∧∃ e∈o.after,Region.binds .any e=true∧(p=e.on∨((Region.before ops).getD e.on 0).testBit p=true):=by
 have key:∀ (l:List Oper) (acc:Array Nat),(∀ j,l[j]?=ops[acc.size+j]?) →
   (∀ p q,(acc.getD q 0).testBit p=true→∃ o,ops[q]?=some o∧∃ e∈o.after,Region.binds .any e=true∧(p=e.on∨(acc.getD e.on 0).testBit p=true)) →
   ∀ p q,((l.foldl (fun acc (o:Oper)=>acc.push (o.after.foldl (fun s e=>if Region.binds .any e then s ||| 2 ^ e.on ||| acc.getD e.on 0 else s) 0)) acc).getD q 0).testBit p=true →
    ∃ o,ops[q]?=some o∧∃ e∈o.after,Region.binds .any e=true∧(p=e.on∨((l.foldl (fun acc (o:Oper)=>acc.push (o.after.foldl (fun s e=>if Region.binds .any e then s ||| 2 ^ e.on ||| acc.getD e.on 0 else s) 0)) acc).getD e.on 0).testBit p=true):=by
  intro l
  induction l with
  | nil=>intro acc _ hacc p q h;exact hacc p q h
  | cons o l ih =>
   intro acc hl hacc p q h
   simp only [List.foldl_cons] at h ⊢
   refine ih _ (fun j=>by have:=hl (j+1);simpa [Nat.add_assoc,Nat.add_comm 1 j] using this) ?_ p q h
   intro p q hq
   have lift:∀ {k p:Nat},(acc.getD k 0).testBit p=true→∀ x,((acc.push x).getD k 0).testBit p=true:=by
    intro k p hk x
    by_cases hlt:k<acc.size
    ·simpa [Array.getD_eq_getD_getElem?,Array.getElem?_push,Nat.ne_of_lt hlt] using hk
    ·simp [Array.getD_eq_getD_getElem?,Array.getElem?_eq_none (Nat.le_of_not_lt hlt)] at hk
   by_cases hqs:q=acc.size
   ·subst hqs
    have h0:ops[acc.size]?=some o:=by simpa using (hl 0).symm
    have hpush:∀ x:Nat,(acc.push x).getD acc.size 0=x:=fun x=>by simp [Array.getD_eq_getD_getElem?]
    rw [hpush,← Array.foldl_toList] at hq
    rcases foldl_bit acc p _ _ hq with h1 | ⟨e,h1,h2,h3⟩
    ·simp at h1
    ·exact ⟨o,h0,e,Array.mem_toList_iff.1 h1,h2,h3.imp id fun h=>lift h _⟩
   ·have hq':(acc.getD q 0).testBit p=true:=by
     simpa [Array.getD_eq_getD_getElem?,Array.getElem?_push,hqs] using hq
    obtain ⟨o',h1,e,h2,h3,h4⟩:=hacc p q hq'
    exact ⟨o',h1,e,h2,h3,h4.imp id fun h=>lift h _⟩
 have:=key ops.toList #[] (fun j=>by simp) (fun p q h=>by simp at h) p q (by
  unfold Region.before at h
  rw [← Array.foldl_toList] at h
  exact h)
 unfold Region.before
 rw [← Array.foldl_toList]
 exact this
def dstOf (ops:Array Oper) (k:Nat):Option Tmp:=(ops[k]?).bind (·.dst)
def calmQ:Option (Nat × Nat)→Heap→Op→(Operand→Value)→Bool
 | none,_,_,_=>false
 | some c,h,op,ρ=>calmL c h op ρ
theorem calm_load {cm:Option (Nat × Nat)} {h:Heap} {op:Op} {ρ:Operand→Value} (hc:calmQ cm h op ρ=true):∃ t x,op=.load t x:=by
 unfold calmQ at hc
 split at hc
 ·cases hc
 ·unfold calmL at hc
  split at hc
  ·exact ⟨_,_,rfl⟩
  ·cases hc
theorem calm_none {E:Env} {cm:Option (Nat × Nat)} {h:Heap} {op:Op} {ρ:Operand→Value} (hc:clsOf E op=.write):calmQ cm h op ρ=false:=by
 cases hq:calmQ cm h op ρ with
 | false=>rfl
 | true =>
  obtain ⟨t,x,rfl⟩:=calm_load hq
  cases hc
theorem flag_eq {E:Env} {sl:Bool} {ops:Array Oper} {b:Array Nat} {i:Nat} {o:Oper} {cm:Option (Nat × Nat)} {h:Heap} {ρ:Operand→Value} (hn:stillAt E sl ops b i o=false):(strictAt E sl ops b i o && !calmQ cm h o.op ρ)=strictAt E sl ops b i o:=by
 by_cases hc:clsOf E o.op=.write
 ·rw [calm_none hc];simp
 ·have:strictAt E sl ops b i o=false:=by
   unfold strictAt
   rw [hn]
   simp [hc]
  rw [this];rfl
structure Tr (E:Env) (sl:Bool) (C:Callee) (lo:Nat) (cm:Option (Nat × Nat)) (ops:Array Oper) (S:Nat→Slots) (H:Nat→Heap) (V:Nat→Value) (G:Nat→Bool) (j:Nat) (o:Oper):Prop where
 guard:guardA ops (S j) o=some (G j)
 slot:S (j+1)=putA (S j) o.dst (V j)
 run:G j=true→aop E C lo (strictAt E sl ops (Region.before ops) j o && !calmQ cm (H j) o.op (evalA E (S j))) o.op (evalA E (S j)) (H j)=some (V j,H (j+1))
 calm:∀ c,cm=some c→G j=true→raceAt E sl ops (Region.before ops) j o=true→(H (j+1))[c.1]?=(H j)[c.1]?
 skip:G j=false→V j=skipV∧H (j+1)=H j
theorem trace_of {E:Env} {sl:Bool} {C:Callee} {lo:Nat} {ops:Array Oper}:∀ (l:List (Oper × Nat)) (k:Nat) (σ σ':Slots) (h h':Heap),(∀ j,l[j]?=(ops[k+j]?).map (·,k+j)) →
  runOps E C lo ops (l.map fun x=>(x.1,strictAt E sl ops (Region.before ops) x.2 x.1)) σ h=some (σ',h') →
  ∃ S H V G,S k=σ∧H k=h∧S (k+l.length)=σ'∧H (k+l.length)=h'∧∀ j o,k≤j→ops[j]?=some o→Tr E sl C lo none ops S H V G j o
 | [],k,σ,σ',h,h',hl,hr=>by
  simp only [List.map_nil,runOps,Option.some.injEq,Prod.mk.injEq] at hr
  obtain ⟨rfl,rfl⟩:=hr
  refine ⟨fun _=>σ,fun _=>h,fun _=>skipV,fun _=>false,rfl,rfl,rfl,rfl,fun j o hj ho=>?_⟩
  have:=hl (j-k)
  rw [show k+(j-k)=j by omega,ho] at this
  simp at this
 | (o,i) :: l,k,σ,σ',h,h',hl,hr=>by
  have h0:ops[k]?=some o∧i=k:=by
   have:=hl 0
   simp only [List.getElem?_cons_zero,Nat.add_zero] at this
   cases hx:ops[k]? with
   | none=>simp [hx] at this
   | some x=>simp [hx] at this;exact ⟨by rw [this.1],this.2⟩
  obtain ⟨h0,rfl⟩:=h0
  have hl':∀ j,l[j]?=(ops[i+1+j]?).map (·,i+1+j):=fun j=>by
   have:=hl (j+1)
   rw [show i+(j+1)=i+1+j by omega] at this
   simpa using this
  simp only [List.map_cons,runOps] at hr
  have mk:∀ {v:Value} {h1:Heap} {g:Bool},guardA ops σ o=some g→(g=true→aop E C lo (strictAt E sl ops (Region.before ops) i o && !calmQ none h o.op (evalA E σ)) o.op (evalA E σ) h=some (v,h1))→(∀ c:Nat × Nat,(none:Option (Nat × Nat))=some c→g=true→raceAt E sl ops (Region.before ops) i o=true→h1[c.1]?=h[c.1]?)→(g=false→v=skipV∧h1=h) →
    (∃ S H V G,S (i+1)=putA σ o.dst v∧H (i+1)=h1∧S (i+1+l.length)=σ'∧H (i+1+l.length)=h'∧∀ j o,i+1≤j→ops[j]?=some o→Tr E sl C lo none ops S H V G j o) →
    ∃ S H V G,S i=σ∧H i=h∧S (i+(l.length+1))=σ'∧H (i+(l.length+1))=h'∧∀ j o,i≤j→ops[j]?=some o→Tr E sl C lo none ops S H V G j o:=by
   intro v h1 g hg hrun hcalm hskip ⟨S,H,V,G,e1,e2,e3,e4,e5⟩
   refine ⟨fun j=>if j=i then σ else S j,fun j=>if j=i then h else H j,fun j=>if j=i then v else V j,fun j=>if j=i then g else G j,by simp,by simp,?_,?_,fun j o' hj ho'=>?_⟩
   ·simp only []
    rw [if_neg (by omega),← e3];congr 1;omega
   ·simp only []
    rw [if_neg (by omega),← e4];congr 1;omega
   ·by_cases hji:j=i
    ·subst hji
     rw [h0] at ho';cases ho'
     have n1:¬ (j+1=j):=by omega
     exact ⟨by simpa using hg,by simp [e1],fun h=>by simp only [if_pos,if_neg n1,e2];exact hrun (by simpa using h),fun c hc h1 h2=>by simp only [if_pos,if_neg n1,e2];exact hcalm c hc (by simpa using h1) h2,fun h=>by simp [e2];exact hskip (by simpa using h)⟩
    ·have t:=e5 j o' (by omega) ho'
     have n1:¬ (j+1=i):=by omega
     exact ⟨by simpa [hji] using t.guard,by simp [hji,n1,t.slot],fun h=>by simp only [if_neg hji,if_neg n1];exact t.run (by simpa [hji] using h),fun c hc h1 h2=>by simp only [if_neg hji,if_neg n1];exact t.calm c hc (by simpa [hji] using h1) h2,fun h=>by simp [hji,n1];exact t.skip (by simpa [hji] using h)⟩
  split at hr
  ·rename_i hg
   simp only [Option.bind_eq_some_iff] at hr
   obtain ⟨⟨v,h1⟩,hop,hr⟩:=hr
   exact mk hg (fun _=>by rw [show (strictAt E sl ops (Region.before ops) i o && !calmQ none h o.op (evalA E σ))=strictAt E sl ops (Region.before ops) i o from Bool.and_true _];exact hop) (fun c hc=>by cases hc) (fun h=>by cases h) (trace_of l (i+1) _ _ _ _ hl' hr)
  ·rename_i hg
   exact mk (v:=skipV) (h1:=h) hg (fun h=>by cases h) (fun c hc=>by cases hc) (fun _=>⟨rfl,rfl⟩) (trace_of l (i+1) _ _ _ _ hl' hr)
  ·cases hr
theorem trace_ofQ {E:Env} {sl:Bool} {C:Callee} {lo:Nat} {c0:Nat × Nat} {ops:Array Oper}:∀ (l:List (Oper × Nat)) (k:Nat) (σ σ':Slots) (h h':Heap),(∀ j,l[j]?=(ops[k+j]?).map (·,k+j)) →
  runQ E C lo c0 ops (l.map fun x=>((x.1,strictAt E sl ops (Region.before ops) x.2 x.1),raceAt E sl ops (Region.before ops) x.2 x.1)) σ h=some (σ',h') →
  ∃ S H V G,S k=σ∧H k=h∧S (k+l.length)=σ'∧H (k+l.length)=h'∧∀ j o,k≤j→ops[j]?=some o→Tr E sl C lo (some c0) ops S H V G j o
 | [],k,σ,σ',h,h',hl,hr=>by
  simp only [List.map_nil,runQ,Option.some.injEq,Prod.mk.injEq] at hr
  obtain ⟨rfl,rfl⟩:=hr
  refine ⟨fun _=>σ,fun _=>h,fun _=>skipV,fun _=>false,rfl,rfl,rfl,rfl,fun j o hj ho=>?_⟩
  have:=hl (j-k)
  rw [show k+(j-k)=j by omega,ho] at this
  simp at this
 | (o,i) :: l,k,σ,σ',h,h',hl,hr=>by
  have h0:ops[k]?=some o∧i=k:=by
   have:=hl 0
   simp only [List.getElem?_cons_zero,Nat.add_zero] at this
   cases hx:ops[k]? with
   | none=>simp [hx] at this
   | some x=>simp [hx] at this;exact ⟨by rw [this.1],this.2⟩
  obtain ⟨h0,rfl⟩:=h0
  have hl':∀ j,l[j]?=(ops[i+1+j]?).map (·,i+1+j):=fun j=>by
   have:=hl (j+1)
   rw [show i+(j+1)=i+1+j by omega] at this
   simpa using this
  simp only [List.map_cons,runQ] at hr
  have mk:∀ {v:Value} {h1:Heap} {g:Bool},guardA ops σ o=some g→(g=true→aop E C lo (strictAt E sl ops (Region.before ops) i o && !calmQ (some c0) h o.op (evalA E σ)) o.op (evalA E σ) h=some (v,h1))→(∀ c:Nat × Nat,(some c0)=some c→g=true→raceAt E sl ops (Region.before ops) i o=true→h1[c.1]?=h[c.1]?)→(g=false→v=skipV∧h1=h) →
    (∃ S H V G,S (i+1)=putA σ o.dst v∧H (i+1)=h1∧S (i+1+l.length)=σ'∧H (i+1+l.length)=h'∧∀ j o,i+1≤j→ops[j]?=some o→Tr E sl C lo (some c0) ops S H V G j o) →
    ∃ S H V G,S i=σ∧H i=h∧S (i+(l.length+1))=σ'∧H (i+(l.length+1))=h'∧∀ j o,i≤j→ops[j]?=some o→Tr E sl C lo (some c0) ops S H V G j o:=by
   intro v h1 g hg hrun hcalm hskip ⟨S,H,V,G,e1,e2,e3,e4,e5⟩
   refine ⟨fun j=>if j=i then σ else S j,fun j=>if j=i then h else H j,fun j=>if j=i then v else V j,fun j=>if j=i then g else G j,by simp,by simp,?_,?_,fun j o' hj ho'=>?_⟩
   ·simp only []
    rw [if_neg (by omega),← e3];congr 1;omega
   ·simp only []
    rw [if_neg (by omega),← e4];congr 1;omega
   ·by_cases hji:j=i
    ·subst hji
     rw [h0] at ho';cases ho'
     have n1:¬ (j+1=j):=by omega
     exact ⟨by simpa using hg,by simp [e1],fun h=>by simp only [if_pos,if_neg n1,e2];exact hrun (by simpa using h),fun c hc h1 h2=>by simp only [if_pos,if_neg n1,e2];exact hcalm c hc (by simpa using h1) h2,fun h=>by simp [e2];exact hskip (by simpa using h)⟩
    ·have t:=e5 j o' (by omega) ho'
     have n1:¬ (j+1=i):=by omega
     exact ⟨by simpa [hji] using t.guard,by simp [hji,n1,t.slot],fun h=>by simp only [if_neg hji,if_neg n1];exact t.run (by simpa [hji] using h),fun c hc h1 h2=>by simp only [if_neg hji,if_neg n1];exact t.calm c hc (by simpa [hji] using h1) h2,fun h=>by simp [hji,n1];exact t.skip (by simpa [hji] using h)⟩
  split at hr
  ·rename_i hg
   simp only [Option.bind_eq_some_iff] at hr
   obtain ⟨⟨v,h1⟩,hop,hr⟩:=hr
   have hk:¬ ((raceAt E sl ops (Region.before ops) i o && !sameO h[c0.1]? h1[c0.1]?)=true):=fun e=>by rw [if_pos e] at hr;cases hr
   rw [if_neg hk] at hr
   exact mk hg (fun _=>hop) (fun c hc _ hrc=>by
    cases hc
    cases hs:sameO h[c0.1]? h1[c0.1]? with
    | true=>exact (sameO_eq hs).symm
    | false=>exact absurd (by rw [hrc,hs];rfl) hk) (fun h=>by cases h) (trace_ofQ l (i+1) _ _ _ _ hl' hr)
  ·rename_i hg
   exact mk (v:=skipV) (h1:=h) hg (fun h=>by cases h) (fun c hc h=>by cases h) (fun _=>⟨rfl,rfl⟩) (trace_ofQ l (i+1) _ _ _ _ hl' hr)
  ·cases hr
theorem aConvertH_pure {E:Env} {h:Heap} {s d:TypeId} {y:Operand} {x:Value} (hc:clsOf E (.convert s d y)=.pure):aConvertH E.P h s d x=aConvert E.P s d x:=by
 simp only [clsOf] at hc
 unfold aConvertH
 split at hc
 ·rename_i hb;rw [hb];rfl
 ·cases hc
theorem pure_upon {E:Env} {C:Callee} {lo:Nat} {strict:Bool} {o:Oper} {ρA:Operand→Value} {v:Value} {h h':Heap} (hc:clsOf E o.op=.pure)
  (hv:aop E C lo strict o.op ρA h=some (v,h')):h'=h∧∀ (M:Mem) (w:World) (a:Act),(∀ x∈o.op.operands,VRel M (ρA x) (a.eval x))→∀ (next:Act→World→Prop) (Q:Exit→Act→World→Prop),
   (∀ v',VRel M v v'→next (a.put o.dst v') w)→o.wp E.P a w next Q:=by
 cases hop:o.op with
 | move x =>
  simp only [hop,aop,Option.some.injEq,Prod.mk.injEq] at hv
  obtain ⟨rfl,rfl⟩:=hv
  refine ⟨rfl,fun M w a hr next Q hn=>plain_upon (s:=pure (a.eval x)) (v':=a.eval x) (w':=w) (by simp [execOp,hop]) (by simp) (hn _ (hr x (by simp [Op.operands])))⟩
 | assign x =>
  simp only [hop,aop,Option.some.injEq,Prod.mk.injEq] at hv
  obtain ⟨rfl,rfl⟩:=hv
  refine ⟨rfl,fun M w a hr next Q hn=>plain_upon (s:=pure (a.eval x)) (v':=a.eval x) (w':=w) (by simp [execOp,hop]) (by simp) (hn _ (hr x (by simp [Op.operands])))⟩
 | pick c x y =>
  simp only [hop,aop] at hv
  split at hv
  ·rename_i t ht
   simp only [Option.some.injEq,Prod.mk.injEq] at hv
   obtain ⟨rfl,rfl⟩:=hv
   refine ⟨rfl,fun M w a hr next Q hn=>?_⟩
   have hc:=hr c (by simp [Op.operands])
   rw [ht] at hc
   have hcv:=hc.bool
   have hxv:=hr x (by simp [Op.operands])
   have hyv:=hr y (by simp [Op.operands])
   unfold Oper.wp
   simp [execOp,hop,hcv,asBool,Oper.upon]
   cases t
   ·exact hn _ hyv
   ·exact hn _ hxv
  ·cases hv
 | build t parts =>
  simp only [hop,aop,Option.map_eq_some_iff,Prod.mk.injEq] at hv
  obtain ⟨_,hb,rfl,rfl⟩:=hv
  refine ⟨rfl,fun M w a hr next Q hn=>?_⟩
  obtain ⟨v',h1,h2⟩:=build_sound (w:=w) (parts':=parts.map fun (i,x)=>(i,a.eval x)) hb (by simp) (parts_rel fun p hp=>hr p.2 (by
   simp only [Op.operands];simp;exact ⟨p.1,hp⟩))
  exact plain_upon (by simp [execOp,hop]) h1 (hn _ h2)
 | nilCheck x =>
  simp only [hop,aop] at hv
  split at hv
  ·rename_i p hp
   simp only [Option.some.injEq,Prod.mk.injEq] at hv
   obtain ⟨rfl,rfl⟩:=hv
   refine ⟨rfl,fun M w a hr next Q hn=>?_⟩
   have hx:=hr x (by simp [Op.operands])
   rw [hp] at hx
   have hx0:=hx
   obtain ⟨p',e,_⟩:=hx.ptrSome
   unfold Oper.wp
   simp [execOp,hop,e,Oper.upon]
   rw [← e];exact hn _ hx0
  ·rename_i p q hp
   simp only [Option.some.injEq,Prod.mk.injEq] at hv
   obtain ⟨rfl,rfl⟩:=hv
   refine ⟨rfl,fun M w a hr next Q hn=>?_⟩
   have hx:=hr x (by simp [Op.operands])
   rw [hp] at hx
   have hx0:=hx
   obtain ⟨p',e⟩:∃ p',a.eval x=.pointer (some p'):=by
    have ht:=hx.treeSome
    generalize a.eval x=z at ht
    cases ht with
    | atom _ h=>simp [Bm.atom] at h
    | lnil _ hn=>omega
    | lst _ hn=>omega
    | cptr v a'=>exact ⟨a',rfl⟩
   unfold Oper.wp
   simp [execOp,hop,e,Oper.upon]
   rw [← e];exact hn _ hx0
  ·rename_i f fst cap hp
   simp only [Option.some.injEq,Prod.mk.injEq] at hv
   obtain ⟨rfl,rfl⟩:=hv
   refine ⟨rfl,fun M w a hr next Q hn=>?_⟩
   have hx:=hr x (by simp [Op.operands])
   rw [hp] at hx
   have hx0:=hx
   obtain ⟨p',c',e,_⟩:=hx.funcSome
   unfold Oper.wp
   simp [execOp,hop,e,Oper.upon]
   rw [← e];exact hn _ hx0
  ·cases hv
 | binOp op t x y yt =>
  simp only [hop,aop,Option.map_eq_some_iff,Prod.mk.injEq] at hv
  obtain ⟨_,hb,rfl,rfl⟩:=hv
  refine ⟨rfl,fun M w a hr next Q hn=>?_⟩
  obtain ⟨v',h1,h2⟩:=binO_sound (w:=w) (xo:=x) (yo:=y) hb (hr x (by simp [Op.operands])) (hr y (by simp [Op.operands]))
  exact plain_upon (by simp [execOp,hop]) h1 (hn _ h2)
 | unOp op t x =>
  simp only [hop,aop,Option.map_eq_some_iff,Prod.mk.injEq] at hv
  obtain ⟨_,hb,rfl,rfl⟩:=hv
  refine ⟨rfl,fun M w a hr next Q hn=>?_⟩
  obtain ⟨v',h1,h2⟩:=un_sound (P:=E.P) (w:=w) hb (hr x (by simp [Op.operands]))
  exact plain_upon (by simp [execOp,hop]) h1 (hn _ h2)
 | convert s t x =>
  simp only [hop,aop,Option.map_eq_some_iff,Prod.mk.injEq] at hv
  obtain ⟨_,hb,rfl,rfl⟩:=hv
  refine ⟨rfl,fun M w a hr next Q hn=>?_⟩
  have hb:=(aConvertH_pure (hop ▸ hc)).symm.trans hb
  obtain ⟨v',h1,h2⟩:=convert_sound (w:=w) hb (hr x (by simp [Op.operands]))
  exact plain_upon (by simp [execOp,hop]) h1 (hn _ h2)
 | makeFunc fn fst cap =>
  cases fn with
  | func f =>
   simp only [hop,aop,Option.some.injEq,Prod.mk.injEq] at hv
   obtain ⟨rfl,rfl⟩:=hv
   refine ⟨rfl,fun M w a hr next Q hn=>?_⟩
   have rel:∀ (l:Array Operand),(∀ x∈l,VRel M (ρA x) (a.eval x))→∀ (i:Nat) u u',(l.map ρA)[i]?=some u→(l.map a.eval)[i]?=some u'→VRel M u u':=by
    intro l hl i u u' hu hu'
    simp only [Array.getElem?_map,Option.map_eq_some_iff] at hu hu'
    obtain ⟨x,hx,rfl⟩:=hu
    obtain ⟨x',hx',rfl⟩:=hu'
    rw [hx] at hx';cases hx'
    exact hl x (Array.mem_of_getElem? hx)
   refine plain_upon (s:=Instr.makeFunc (.func f) (fst.map a.eval) (cap.map a.eval)) (by simp [execOp,hop]) (by simp [Instr.makeFunc]) (hn _ (.func _ _ _ _ _ (by simp) (by simp) (rel fst fun x hx=>hr x (by simp [Op.operands,hx])) (rel cap fun x hx=>hr x (by simp [Op.operands,hx]))))
  | _=>simp [hop,aop] at hv
 | fieldAddr t x f =>
  simp only [hop,aop,Option.map_eq_some_iff,Prod.mk.injEq] at hv
  obtain ⟨_,hb,rfl,rfl⟩:=hv
  refine ⟨rfl,fun M w a hr next Q hn=>?_⟩
  obtain ⟨v',h1,h2⟩:=fieldAddr_sound (w:=w) hb (hr x (by simp [Op.operands]))
  exact plain_upon (by simp [execOp,hop]) h1 (hn _ h2)
 | field t x f =>
  simp only [hop,aop,Option.map_eq_some_iff,Prod.mk.injEq] at hv
  obtain ⟨_,hb,rfl,rfl⟩:=hv
  refine ⟨rfl,fun M w a hr next Q hn=>?_⟩
  obtain ⟨v',h1,h2⟩:=field_sound (w:=w) hb (hr x (by simp [Op.operands]))
  exact plain_upon (by simp [execOp,hop]) h1 (hn _ h2)
 | indexAddr t x i =>
  simp only [hop,aop,Option.map_eq_some_iff,Prod.mk.injEq] at hv
  obtain ⟨_,hb,rfl,rfl⟩:=hv
  refine ⟨rfl,fun M w a hr next Q hn=>?_⟩
  obtain ⟨v',h1,h2⟩:=indexAddr_sound (w:=w) hb (hr x (by simp [Op.operands])) (hr i (by simp [Op.operands]))
  exact plain_upon (by simp [execOp,hop]) h1 (hn _ h2)
 | index t x i =>
  simp only [hop,aop,Option.map_eq_some_iff,Prod.mk.injEq] at hv
  obtain ⟨_,hb,rfl,rfl⟩:=hv
  refine ⟨rfl,fun M w a hr next Q hn=>?_⟩
  obtain ⟨v',h1,h2⟩:=index_sound (w:=w) hb (hr x (by simp [Op.operands])) (hr i (by simp [Op.operands]))
  exact plain_upon (by simp [execOp,hop]) h1 (hn _ h2)
 | extract x i =>
  simp only [hop,aop] at hv
  split at hv
  ·rename_i vs hvs
   simp only [Option.map_eq_some_iff,Prod.mk.injEq] at hv
   obtain ⟨_,hb,rfl,rfl⟩:=hv
   refine ⟨rfl,fun M w a hr next Q hn=>?_⟩
   have hx:=hr x (by simp [Op.operands])
   rw [hvs] at hx
   obtain ⟨v',h1,h2⟩:=extract_sound (P:=E.P) (w:=w) (x:=.tuple vs) hb hx
   exact plain_upon (by simp [execOp,hop]) h1 (hn _ h2)
  ·cases hv
 | call c =>
  rw [hop] at hc
  unfold clsOf at hc
  simp only at hc
  simp only [hop,aop] at hv
  split at hc
  ·rename_i b hcal
   have key:∀ (mx:Bool),(b=if mx then .max else .min)→((aMinMax mx (c.args.toList.map ρA)).map (·,h))=some (v,h')→h'=h∧∀ (M:Mem) (w:World) (a:Act),(∀ x∈(Op.call c).operands,VRel M (ρA x) (a.eval x))→∀ (next:Act→World→Prop) (Q:Exit→Act→World→Prop),
     (∀ v',VRel M v v'→next (a.put o.dst v') w)→o.wp E.P a w next Q:=by
    intro mx hb hv
    simp only [Option.map_eq_some_iff,Prod.mk.injEq] at hv
    obtain ⟨_,hm,rfl,rfl⟩:=hv
    refine ⟨rfl,fun M w a hr next Q hn=>?_⟩
    have hargs:VRels M (c.args.toList.map ρA) (c.args.toList.map a.eval):=vrels_map fun x hx=>hr x (by
     simp only [Op.operands,Call.operands]
     exact Array.mem_append.2 (.inr (Array.mem_toList_iff.1 hx)))
    obtain ⟨cs,hex⟩:∃ cs,execOp a.eval o=builtin b c.argTypes o.type cs (c.args.map a.eval):=⟨_,by simp [execOp,hop,resolve,hcal,invoke];rfl⟩
    have hcargs:(c.args.map a.eval)=(c.args.toList.map a.eval).toArray:=by apply Array.ext';simp
    rw [hcargs] at hex
    obtain ⟨h1,h2⟩:=minMax_sound (P:=E.P) (w:=w) hm hargs
    cases mx
    ·simp only [Bool.false_eq_true,if_false] at h1 hb
     subst hb
     exact plain_upon (by rw [hex];rfl) h1 (hn _ (.atom _ h2))
    ·simp only [if_true] at h1 hb
     subst hb
     exact plain_upon (by rw [hex];rfl) h1 (hn _ (.atom _ h2))
   simp only [hcal] at hv
   split at hc
   ·exact key false rfl (by simpa using hv)
   ·exact key true rfl (by simpa using hv)
   ·cases hc
   ·cases hc
   ·cases hc
  ·split at hc <;> cases hc
  ·cases hc
 | _=>simp [hop,clsOf] at hc
theorem load_same {E:Env} {C:Callee} {lo:Nat} {strict:Bool} {op:Op} {ρA:Operand→Value} {v:Value} {h h':Heap} (hl:isLoad op=true) (hv:aop E C lo strict op ρA h=some (v,h')):h'=h:=by
 cases op <;> simp only [isLoad] at hl <;> try (cases hl;done)
 all_goals
  simp only [aop] at hv
  split at hv
  ·cases hv
  ·simp only [Option.map_eq_some_iff,Prod.mk.injEq] at hv
   obtain ⟨_,_,_,rfl⟩:=hv
   rfl
theorem tree_load {E:Env} {M:Mem} {w:World} {h:Heap} {t:TypeId} {x x' v:Value} (hphi:∀ b o v,M.phi b o=some v→w.cell? ⟨b,o,none⟩=some v) (hc:isCp x=true) (hv:aLoad E.P h t x=some v) (hx:VRel M x x') :
  ∃ v',(Instr.loadAt t x').run E.P w=.ok v' w∧VRel M v v':=by
 unfold isCp at hc
 split at hc
 case h_2=>cases hc
 rename_i u y
 have hv':aLoad E.P [] t (.func (.yield 2) u y)=some v:=by
  obtain ⟨ul⟩:=u
  match ul,hv with
  | [],hv=>simp [aLoad] at hv
  | [_],hv=>exact hv
  | _ :: _ :: _,hv=>simp [aLoad] at hv
 obtain ⟨E0,hE0⟩:∃ E0:Env,E0 = { E with glob:=fun _=>none,gany:=[],tabs:=[] }:=⟨_,rfl⟩
 obtain ⟨M0,hM0⟩:∃ M0:Mem,M0=⟨fun _=>none,M.phi⟩:=⟨_,rfl⟩
 have ho:∀ o,M0.obj o=none:=fun o=>by rw [hM0]
 have hp:M0.phi=M.phi:=by rw [hM0]
 have hs:HSim E0 0 M0 [] w:=by
  refine ⟨fun g v hg=>?_,fun b o v hb=>hphi b o v (by rw [← hp];exact hb),fun o l hl=>?_,Nat.zero_le _,fun o l hl=>?_,fun o l t c g hl=>?_,fun o l es ck hl=>?_,fun o₁ o₂ l₁ l₂ hl=>?_,fun g hg=>(by rw [hE0] at hg;cases hg),fun g cs hg=>(by rw [hE0] at hg;cases hg)⟩
  ·rw [hE0] at hg;cases hg
  all_goals (rw [ho] at hl;cases hl)
 have hx0:VRel M0 (.func (.yield 2) u y) x':=.tree _ _ _ _ (by rw [hp];exact hx.treeSome)
 have hPe:E0.P=E.P:=by rw [hE0]
 rw [← hPe] at hv' ⊢
 obtain ⟨v',h1,h2⟩:=load_sound hs hv' hx0
 exact ⟨v',h1,h2.mono (Mem.Le.mk (fun o l hl=>absurd hl (by rw [ho];simp)) fun b o v hb=>by rw [← hp];exact hb)⟩
theorem orel_flat {M M₀:Mem} {v v':Option Value} {a b c:Nat} (h:ORel M v v') (hb:bound v a b=some c):ORel M₀ v v':=by
 rcases h with ⟨rfl,rfl⟩ | ⟨u,u',rfl,rfl,hu⟩
 ·exact .inl ⟨rfl,rfl⟩
 ·cases u with
  | int k n =>
   obtain rfl:=hu.int
   exact .inr ⟨_,_,rfl,rfl,.atom _ rfl⟩
  | _=>simp [bound] at hb
theorem slice_of {P:Program} {h:Heap} {t:TypeId} {x v:Value} {lo hi mx:Option Value} (hc:isTr x=true) (hv:aSlice P h t x lo hi mx=some v) :
  aSlice P [] t x lo hi mx=some v∧(∃ a b c,bound mx a b=some c)∧(∃ a b c,bound hi a b=some c)∧∃ a b c,bound lo a b=some c:=by
 unfold isTr at hc
 split at hc
 ·unfold aSlice at hv ⊢
  cases hu:P.underlying t with
  | none=>rw [hu] at hv;cases hv
  | some d =>
   rw [hu] at hv
   cases d <;> first | (cases hv;done) | skip
   refine ⟨hv,?_⟩
   simp only [Option.bind_eq_some_iff] at hv
   obtain ⟨_,_,hv⟩:=hv
   split at hv
   ·cases hv
   ·simp only [Option.bind_eq_some_iff,Option.map_eq_some_iff] at hv
    obtain ⟨m,hm,u,hu,l,hl,_⟩:=hv
    exact ⟨⟨_,_,_,hm⟩,⟨_,_,_,hu⟩,⟨_,_,_,hl⟩⟩
 ·rename_i k y l
  obtain ⟨l⟩:=l
  unfold aSlice at hv ⊢
  cases hu:P.underlying t with
  | none=>rw [hu] at hv;cases hv
  | some d =>
   rw [hu] at hv
   cases d <;> first | (cases hv;done) | skip
   refine ⟨hv,?_⟩
   simp only [Option.bind_eq_some_iff] at hv
   obtain ⟨_,_,hv⟩:=hv
   split at hv
   ·simp only [Option.bind_eq_some_iff,Option.map_eq_some_iff] at hv
    obtain ⟨m,hm,u,hu,l,hl,_⟩:=hv
    exact ⟨⟨_,_,_,hm⟩,⟨_,_,_,hu⟩,⟨_,_,_,hl⟩⟩
   ·cases hv
 ·cases hc
theorem tree_slice {E:Env} {M:Mem} {w:World} {h:Heap} {t:TypeId} {x x' v:Value} {lo hi mx lo' hi' mx':Option Value} (hphi:∀ b o v,M.phi b o=some v→w.cell? ⟨b,o,none⟩=some v) (hc:isTr x=true) (hv:aSlice E.P h t x lo hi mx=some v) (hx:VRel M x x')
  (hlo:ORel M lo lo') (hhi:ORel M hi hi') (hmx:ORel M mx mx'):∃ v',(Instr.sliceAt t x' lo' hi' mx').run E.P w=.ok v' w∧VRel M v v':=by
 obtain ⟨hv',⟨_,_,_,bm⟩,⟨_,_,_,bh⟩,⟨_,_,_,bl⟩⟩:=slice_of hc hv
 obtain ⟨E0,hE0⟩:∃ E0:Env,E0 = { E with glob:=fun _=>none,gany:=[],tabs:=[] }:=⟨_,rfl⟩
 obtain ⟨M0,hM0⟩:∃ M0:Mem,M0=⟨fun _=>none,M.phi⟩:=⟨_,rfl⟩
 have ho:∀ o,M0.obj o=none:=fun o=>by rw [hM0]
 have hp:M0.phi=M.phi:=by rw [hM0]
 have hs:HSim E0 0 M0 [] w:=by
  refine ⟨fun g v hg=>?_,fun b o v hb=>hphi b o v (by rw [← hp];exact hb),fun o l hl=>?_,Nat.zero_le _,fun o l hl=>?_,fun o l t c g hl=>?_,fun o l es ck hl=>?_,fun o₁ o₂ l₁ l₂ hl=>?_,fun g hg=>(by rw [hE0] at hg;cases hg),fun g cs hg=>(by rw [hE0] at hg;cases hg)⟩
  ·rw [hE0] at hg;cases hg
  all_goals (rw [ho] at hl;cases hl)
 have hx0:VRel M0 x x':=by
  unfold isTr at hc
  split at hc
  ·obtain ⟨rfl,-,-⟩:=hx.sliceNone
   exact .atom _ rfl
  ·exact .tree _ _ _ _ (by rw [hp];exact hx.treeSome)
  ·cases hc
 have hPe:E0.P=E.P:=by rw [hE0]
 rw [← hPe] at hv' ⊢
 obtain ⟨v',h1,h2⟩:=slice_sound hs hv' hx0 (orel_flat hlo bl) (orel_flat hhi bh) (orel_flat hmx bm)
 exact ⟨v',h1,h2.mono (Mem.Le.mk (fun o l hl=>absurd hl (by rw [ho];simp)) fun b o v hb=>by rw [← hp];exact hb)⟩
theorem still_upon {E:Env} {C:Callee} {lo:Nat} {o:Oper} {ρA:Operand→Value} {v:Value} {h h':Heap} (hl:isLoad o.op=true) (hv:aop E C lo true o.op ρA h=some (v,h')) (M:Mem) (w:World) (a:Act)
  (hphi:∀ b o v,M.phi b o=some v→w.cell? ⟨b,o,none⟩=some v) (hr:∀ x∈o.op.operands,VRel M (ρA x) (a.eval x))
  (hlow:∀ t x x' v,isLow lo h x=true→aLoad E.P h t x=some v→VRel M x x'→∃ v',(Instr.loadAt t x').run E.P w=.ok v' w∧VRel M v v') (next:Act→World→Prop) (Q:Exit→Act→World→Prop)
  (hn:∀ v',VRel M v v'→next (a.put o.dst v') w):o.wp E.P a w next Q:=by
 cases hop:o.op with
 | load t x =>
  simp only [hop,aop] at hv
  split at hv
  ·cases hv
  rename_i hc
  have hc:(isCp (ρA x) || isLow lo h (ρA x))=true:=by
   cases hq:(isCp (ρA x) || isLow lo h (ρA x)) with
   | true=>rfl
   | false=>rw [hq] at hc;exact absurd rfl hc
  simp only [Option.map_eq_some_iff,Prod.mk.injEq] at hv
  obtain ⟨_,hb,rfl,rfl⟩:=hv
  rcases Bool.or_eq_true_iff.1 hc with hc | hc
  ·obtain ⟨v',h1,h2⟩:=tree_load hphi hc hb (hr x (by simp [hop,Op.operands]))
   exact plain_upon (by simp [execOp,hop]) h1 (hn _ h2)
  ·obtain ⟨v',h1,h2⟩:=hlow t _ _ _ hc hb (hr x (by simp [hop,Op.operands]))
   exact plain_upon (by simp [execOp,hop]) h1 (hn _ h2)
 | slice t x l u m =>
  simp only [hop,aop] at hv
  split at hv
  ·cases hv
  rename_i hc
  have hc:isTr (ρA x)=true:=by simpa using hc
  simp only [Option.map_eq_some_iff,Prod.mk.injEq] at hv
  obtain ⟨_,hb,rfl,rfl⟩:=hv
  obtain ⟨v',h1,h2⟩:=tree_slice hphi hc hb (hr x (by simp [hop,Op.operands])) (orel_map fun y hy=>hr y (by simp [hop,Op.operands,hy])) (orel_map fun y hy=>hr y (by simp [hop,Op.operands,hy])) (orel_map fun y hy=>hr y (by simp [hop,Op.operands,hy]))
  exact plain_upon (by simp [execOp,hop]) h1 (hn _ h2)
 | _=>rw [hop] at hl;cases hl
end Go.Proofs.YtplebjehcgcdeaaGreatDoor.Bm
