/-
 A region that keeps to the order of its text. Conditions: what is called is sound.
-/
import Derived.Test.YtplebjehcgcdeaaGreatDoorQU08
namespace Go.Proofs.YtplebjehcgcdeaaGreatDoor.Bm
open Go Go.RowKit
def SRel (M:Mem) (σ:Slots) (t:Array Value):Prop:=σ.length=t.size∧∀ (i:Nat) v v',σ[i]?=some v→t[i]?=some v'→VRel M v v'
section
variable {E:Env} {B:Nat} {M M':Mem} {h:Heap} {w:World} {σ:Slots}
theorem SRel.mono {t:Array Value} (hm:M.Le M') (h:SRel M σ t):SRel M' σ t :=
 ⟨h.1,fun i v v' hv hv'=>(h.2 i v v' hv hv').mono hm⟩
theorem SRel.getD {t:Array Value} (h:SRel M σ t) (i:Nat):VRel M (σ.getD i undef) (t.getD i undef):=by
 by_cases hi:i<σ.length
 ·have hi':i<t.size:=h.1 ▸ hi
  have e1:σ.getD i undef=σ[i]:=by simp [hi]
  have e2:t.getD i undef=t[i]:=by simp [hi']
  rw [e1,e2]
  exact h.2 i _ _ (by simp [hi]) (by simp [hi'])
 ·rw [show σ.getD i undef=undef by simp [List.getElem?_eq_none (Nat.le_of_not_lt hi)]]
  exact .top _
theorem SRel.put {a:Act} (h:SRel M σ a.tmps) (d:Option Tmp) {v v':Value} (hv:VRel M v v'):SRel M (putA σ d v) (a.put d v').tmps:=by
 cases d with
 | none=>exact h
 | some d =>
  refine ⟨by simp [putA,Act.put,h.1],fun i u u' hu hu'=>?_⟩
  simp only [putA,Act.put] at hu hu'
  by_cases e:d=i
  ·subst e
   have hd:d<σ.length:=by
    have:=(List.getElem?_eq_some_iff.1 hu).1;simpa using this
   rw [List.getElem?_set_self hd] at hu
   rw [Array.getElem?_setIfInBounds_self_of_lt (h.1 ▸ hd)] at hu'
   cases hu;cases hu';exact hv
  ·rw [List.getElem?_set_ne e] at hu
   rw [Array.getElem?_setIfInBounds_ne e] at hu'
   exact h.2 i u u' hu hu'
theorem eval_rel (hg:∀ g v,E.glob g=some v→VRel M (cptr v) (.pointer (some ⟨g,0,none⟩))) {a:Act} (h:SRel M σ a.tmps) (x:Operand):VRel M (evalA E σ x) (a.eval x):=by
 cases x with
 | tmp t=>exact h.getD t
 | const v =>
  show VRel M (if flat v then v else undef) v
  split
  ·exact VRel.of_flat ‹_›
  ·exact .top _
 | global g =>
  show VRel M (match E.glob g with | some v=>cptr v | none=>undef) _
  split
  ·rename_i v hv
   exact hg g v hv
  ·exact .top _
 | func f=>exact .func _ _ _ _ _ rfl rfl (fun i u u' hu=>by simp at hu) fun i u u' hu=>by simp at hu
theorem guard_rel {a:Act} (h:SRel M σ a.tmps) {ops:Array Oper} {o:Oper} {b:Bool} (hb:guardA ops σ o=some b):Region.wanted o (yielded ops a.tmps)=b:=by
 unfold guardA at hb
 unfold Region.wanted
 cases hg:o.guard with
 | none=>simp only [hg,Option.some.injEq] at hb ⊢; exact hb
 | some jw =>
  obtain ⟨j,want⟩:=jw
  simp only [hg] at hb ⊢
  split at hb
  ·rename_i c hc
   cases hb
   simp only [Option.bind_eq_some_iff] at hc
   obtain ⟨d,hd,hdv⟩:=hc
   have hlt:d<a.tmps.size:=h.1 ▸ (List.getElem?_eq_some_iff.1 hdv).1
   have:=h.2 d _ a.tmps[d] hdv (by simp [hlt])
   have e:=this.bool
   have e2:yielded ops a.tmps j=some c:=by
    obtain ⟨p,hp,hpd⟩:=hd
    unfold yielded
    simp [hp,hpd,hlt,e]
   rw [e2]
   cases c <;> cases want <;> rfl
  ·rename_i n hc
   cases hb
   simp only [Option.bind_eq_some_iff] at hc
   obtain ⟨d,hd,hdv⟩:=hc
   have hlt:d<a.tmps.size:=h.1 ▸ (List.getElem?_eq_some_iff.1 hdv).1
   have:=h.2 d _ a.tmps[d] hdv (by simp [hlt])
   have e:a.tmps[d]=.tuple #[]:=by
    generalize a.tmps[d]=u at this
    cases this with
    | skip=>rfl
    | atom _ h=>simp [Bm.atom] at h
   have e2:yielded ops a.tmps j=none:=by
    obtain ⟨p,hp,hpd⟩:=hd
    unfold yielded
    simp [hp,hpd,hlt,e]
   rw [e2]
   rfl
  ·cases hb
def Aft (E:Env) (B lo:Nat) (M:Mem) (h:Heap) (w:World) (σ':Slots) (h':Heap) (a':Act) (w':World):Prop :=
 a'.defers=[]∧∃ M',SRel M' σ' a'.tmps∧HSim E B M' h' w'∧Evo E lo M h w M' h' w'
theorem Act.put_defers' (a:Act) (d:Option Tmp) (v:Value):(a.put d v).defers=a.defers:=by cases d <;> rfl
theorem ops_sound (hP:GoodP E.P) {C:Callee} (hC:CSound E C) {lo:Nat} {ops:Array Oper} {Q:Exit→Act→World→Prop} {M₀:Mem} {h₀:Heap} {w₀:World}  :
  ∀ (l:List Oper) (k:Nat) (σ σ':Slots) (h h':Heap) (M:Mem) (a:Act) (w:World),(∀ j,l[j]?=ops[k+j]?)→k+l.length=ops.size →
   runOps E C lo ops (l.map (·,false)) σ h=some (σ',h')→lo≤h.length→SRel M σ a.tmps→a.defers=[]→HSim E B M h w→Evo E lo M₀ h₀ w₀ M h w →
   (∀ a' w',Aft E B lo M₀ h₀ w₀ σ' h' a' w'→Q .normal a' w')→wpOps E.P ops Q (List.range' k l.length) a w
 | [],k,σ,σ',h,h',M,a,w,_,_,hr,_,hσ,hd,hs,hev,hQ=>by
  simp only [List.map_nil,runOps,Option.some.injEq,Prod.mk.injEq] at hr
  obtain ⟨rfl,rfl⟩:=hr
  exact hQ a w ⟨hd,M,hσ,hs,hev⟩
 | o :: l,k,σ,σ',h,h',M,a,w,hl,hlen,hr,hlo,hσ,hd,hs,hev,hQ=>by
  have h0:ops[k]?=some o:=by simpa using (hl 0).symm
  have hl':∀ j,l[j]?=ops[k+1+j]?:=fun j=>by have:=hl (j+1);simpa [Nat.add_assoc,Nat.add_comm 1 j] using this
  simp only [List.length_cons,List.range'_succ]
  simp only [List.map_cons,runOps] at hr
  rw [wpOps_cons]
  unfold wpOp
  simp only [h0]
  split at hr
  ·rename_i hg
   rw [guard_rel hσ hg]
   simp only [if_true]
   refine .inl ?_
   simp only [Option.bind_eq_some_iff] at hr
   obtain ⟨⟨v,h1⟩,hop,hr⟩:=hr
   refine aop_sound hP hC hs hlo hop (fun x _=>eval_rel hs.glob hσ x) (evalA_func E σ) fun v' w' ho=>?_
   obtain ⟨M1,q1,q2,q3⟩:=ho.weaken (lo':=lo) (by unfold loOf;split <;> omega)
   exact ops_sound hP hC l (k+1) _ σ' h1 h' M1 _ w' hl' (by simp at hlen;omega) hr (Nat.le_trans hlo q3.len) ((hσ.mono q3.le).put o.dst q1) (by rw [Act.put_defers'];exact hd) q2 (hev.trans q3) hQ
  ·rename_i hg
   rw [guard_rel hσ hg]
   simp only [Bool.false_eq_true,if_false]
   exact ops_sound hP hC l (k+1) _ σ' h h' M _ w hl' (by simp at hlen;omega) hr hlo (hσ.put o.dst (.skip _)) (by rw [Act.put_defers'];exact hd) hs hev hQ
  ·cases hr
theorem SRel.set {t:Array Value} (h:SRel M σ t) (d:Nat) {v:Value} (hv:∀ v',t[d]?=some v'→VRel M v v'):SRel M (σ.set d v) t:=by
 refine ⟨by simp [h.1],fun i u u' hu hu'=>?_⟩
 by_cases e:d=i
 ·subst e
  have hd:d<σ.length:=by
   have:=(List.getElem?_eq_some_iff.1 hu).1;simpa using this
  rw [List.getElem?_set_self hd] at hu
  cases hu;exact hv u' hu'
 ·rw [List.getElem?_set_ne e] at hu
  exact h.2 i u u' hu hu'
theorem SRel.forget {t:Array Value}:∀ (l:List Nat) {σ:Slots},SRel M σ t→SRel M (forget l σ) t
 | [],_,h=>h
 | d :: l,_,h=>SRel.forget l (h.set d fun _ _=>.top _)
theorem SRel.at {t:Array Value} (h:SRel M σ t) {i:Nat} {v':Value} (hv:t[i]?=some v'):VRel M (σ.getD i undef) v':=by
 have:=h.getD i
 rwa [show t.getD i undef=v' by simp [Array.getD_eq_getD_getElem?,hv]] at this
theorem nilRows_get:∀ (k n j:Nat) (v:Value),(nilRows n k)[j]?=some v→j<k∧v=.slice (some ⟨n+j,0,some 0⟩) 0 0
 | 0,n,j,v,h=>by simp [nilRows] at h
 | k+1,n,0,v,h=>by simp [nilRows] at h;exact ⟨by omega,by rw [← h];rfl⟩
 | k+1,n,j+1,v,h=>by
  have h:(nilRows (n+1) k)[j]?=some v:=h
  obtain ⟨h1,h2⟩:=nilRows_get k (n+1) j v h
  exact ⟨by omega,by rw [h2];congr 3;omega⟩
theorem nilRows_len:∀ (k n:Nat),(nilRows n k).length=k
 | 0,_=>rfl
 | k+1,n=>by simp [nilRows,nilRows_len k]
theorem HSim.virts {t:TypeId} {g:Nat} (hg:g≠0):∀ (k:Nat) {M:Mem} {h:Heap},HSim E B M h w →
  ∃ M',HSim E B M' (h++List.replicate k (.cells t [] g)) w∧(∀ lo,lo≤h.length→Evo E lo M h w M' (h++List.replicate k (.cells t [] g)) w)∧∀ j,j<k→M'.obj (h.length+j)=some ⟨0,0,g,0⟩
 | 0,M,h,hs=>⟨M,by simpa using hs,fun lo _=>by simpa using Evo.refl hs lo,fun j hj=>absurd hj (Nat.not_lt_zero _)⟩
 | k+1,M,h,hs=>by
  obtain ⟨q1,q2⟩:=hs.virt (t:=t) hg
  obtain ⟨M',r1,r2,r3⟩:=HSim.virts hg k q1
  have e:h++[AObj.cells t [] g]++List.replicate k (.cells t [] g)=h++List.replicate (k+1) (.cells t [] g):=by
   rw [List.append_assoc,List.replicate_succ];rfl
  rw [e] at r1 r2
  refine ⟨M',r1,fun lo hlo=>(q2 lo hlo).trans (r2 lo (by simp;omega)),fun j hj=>?_⟩
  cases j with
  | zero =>
   have:=(r2 (h.length+1) (by simp)).ext h.length (by omega)
   rw [Nat.add_zero,this]
   exact Mem.put_self
  | succ j =>
   have:=r3 j (by omega)
   rw [List.length_append,List.length_singleton] at this
   rw [← this];congr 1;omega
theorem HSim.recell {lo:Nat} (hs:HSim E B M h w) {o g:Nat} {l:Loc} {t:TypeId} {c d:List Value} (hl:M.obj o=some l) (hob:h[o]?=some (.cells t c g)) (hlo:lo≤o) (hd:d.length=c.length)
  (hv:∀ (j:Nat) u v v',c[j]?=some u→d[j]?=some v→VRel M u v'→one v=true∧VRel M v v') :
  HSim E B M (h.set o (.cells t d g)) w∧Evo E lo M h w M (h.set o (.cells t d g)) w:=by
 have hlt:=hs.lt o l hl
 obtain ⟨hg,hlen,hnr,hre⟩:=hs.obj o l t c g hl hob
 constructor
 ·refine hs.change (.refl M) o (Nat.le_refl _) (fun _ _=>rfl) (by simp) (fun o₂ l₂ ho hl₂=>⟨hl₂,List.getElem?_set_ne (Ne.symm ho)⟩) (fun _ _ _ _ _ _=>rfl) hs.phi (fun o₂ l₂ _ h2 h3 h4=>hs.sep o₂ l₂ h2 h3 h4) fun l₂ hl₂=>?_
  rw [hl] at hl₂;cases hl₂
  refine ⟨by simpa using hlt,(hs.dom o l hl).2,fun _ hr=>⟨hs.sep o l hl ⟨_,hob,by simp⟩ hr,fun o₂ l₂ h1 h2 h3 h4 e=>h1 (hs.inj o₂ o l₂ l h2 hl h3 ⟨_,hob,by simp⟩ h4 hr e)⟩,fun t' c' g' hob'=>?_,fun es ck hob'=>by rw [List.getElem?_set_self hlt] at hob';cases hob'⟩
  rw [List.getElem?_set_self hlt] at hob'
  cases hob'
  refine ⟨hg,fun h0=>by rw [hlen h0,hd],fun hn=>List.eq_nil_of_length_eq_zero (by rw [hd,hnr hn];rfl),fun hr=>?_⟩
  obtain ⟨cs,ty,r1,r2,r3,r4⟩:=hre hr
  refine ⟨cs,ty,r1,r2,by rw [hd];exact r3,fun j v hj=>?_⟩
  have hjc:j<c.length:=by rw [← hd];exact (List.getElem?_eq_some_iff.1 hj).1
  obtain ⟨_,v',s2,s3⟩:=r4 j c[j] (List.getElem?_eq_getElem hjc)
  obtain ⟨k1,k2⟩:=hv j c[j] v v' (List.getElem?_eq_getElem hjc) hj s3
  exact ⟨k1,v',s2,k2⟩
 ·refine ⟨rfl,rfl,rfl,fun _=>Nat.le_refl _,Nat.le_refl _,fun _ _ _=>rfl,by simp,fun o₂ ho=>List.getElem?_set_ne (by omega),fun o₂ _ ha=>(alive_set hob).1 ha,fun o₂ ho=>rfl,.refl M,fun o₂ ho hn=>hn,fun o₂ l₂ ho hl₂ ha hr₂=>?_,fun b y v hv=>.inl hv⟩
  exact .inr ⟨o₂,l₂,ho,hl₂,(alive_set hob).1 ha,hr₂,rfl⟩
theorem HSim.nobody {lo:Nat} (hs:HSim E B M h w) {o:Nat} {x y:AObj} (hm:M.obj o=none) (hob:h[o]?=some x) (hx:x≠.dead):HSim E B M (h.set o y) w∧Evo E lo M h w M (h.set o y) w∨¬ lo≤o:=by
 by_cases hlo:lo≤o
 case neg=>exact .inr hlo
 refine .inl ?_
 have ne:∀ o' l,M.obj o'=some l→o'≠o:=fun o' l hl e=>by rw [e,hm] at hl;cases hl
 have al:∀ o',o'≠o→(h.set o y)[o']?=h[o']?:=fun o' ho=>List.getElem?_set_ne (Ne.symm ho)
 have alv:∀ o' l,M.obj o'=some l→alive (h.set o y) o'→alive h o':=fun o' l hl ⟨z,hz,hz'⟩=>⟨z,by rw [← al o' (ne o' l hl)];exact hz,hz'⟩
 constructor
 ·exact ⟨hs.glob,hs.phi,fun o' l hl ha=>hs.sep o' l hl (alv o' l hl ha),hs.base,fun o' l hl=>by simpa using hs.dom o' l hl,fun o' l t c g hl hob=>hs.obj o' l t c g hl (by rw [← al o' (ne o' l hl)];exact hob),
   fun o' l es ck hl hob=>hs.mp o' l es ck hl (by rw [← al o' (ne o' l hl)];exact hob),fun o₁ o₂ l₁ l₂ h1 h2 h3 h4=>hs.inj o₁ o₂ l₁ l₂ h1 h2 (alv o₁ l₁ h1 h3) (alv o₂ l₂ h2 h4),hs.gany,hs.tabs⟩
 ·refine ⟨rfl,rfl,rfl,fun _=>Nat.le_refl _,Nat.le_refl _,fun _ _ _=>rfl,by simp,fun o' ho=>al o' (by omega),fun o' _ ⟨z,hz,hz'⟩=>?_,fun _ _=>rfl,.refl M,fun _ _ hn=>hn,fun o' l ho hl ha hr=>.inr ⟨o',l,ho,hl,alv o' l hl ha,hr,rfl⟩,fun b y v hv=>.inl hv⟩
  by_cases e:o'=o
  ·subst e;exact ⟨_,hob,hx⟩
  ·rw [al o' e] at hz;exact ⟨z,hz,hz'⟩
theorem HSim.moved {lo:Nat} (hs:HSim E B M h w) {m ck:Nat} {es:List MapEntry} (hob:h[m]?=some (.map es ck)) (hlo:lo≤m) :
  ∃ M',HSim E B M' (h.set m AObj.dead++[AObj.map es ck]) w∧Evo E lo M h w M' (h.set m AObj.dead++[AObj.map es ck]) w∧∀ v',VRel M' (.map (some m)) v'→VRel M' (.map (some h.length)) v':=by
 have hlt:m<h.length:=(List.getElem?_eq_some_iff.1 hob).1
 have hlen:(h.set m AObj.dead).length=h.length:=by simp
 have get:∀ o,o<h.length→o≠m→(h.set m AObj.dead++[AObj.map es ck])[o]?=h[o]?:=fun o ho hne=>by
  rw [List.getElem?_append_left (by simpa using ho),List.getElem?_set_ne (Ne.symm hne)]
 have getm:(h.set m AObj.dead++[AObj.map es ck])[m]?=some .dead:=by
  rw [List.getElem?_append_left (by simpa using hlt),List.getElem?_set_self hlt]
 have getn:(h.set m AObj.dead++[AObj.map es ck])[h.length]?=some (.map es ck):=by
  rw [List.getElem?_append_right (by simp)];simp
 have alv:∀ o,o<h.length→alive (h.set m AObj.dead++[AObj.map es ck]) o→alive h o∧o≠m:=fun o ho ⟨x,hx,hx'⟩=>by
  have hne:o≠m:=fun e=>by rw [e,getm] at hx;cases hx;exact hx' rfl
  exact ⟨⟨x,by rw [← get o ho hne];exact hx,hx'⟩,hne⟩
 have am:alive h m:=⟨_,hob,by simp⟩
 have hnone:M.obj h.length=none:=by
  cases hm:M.obj h.length with
  | none=>rfl
  | some l=>exact absurd (hs.lt _ _ hm) (by omega)
 cases hmo:M.obj m with
 | none =>
  have ne:∀ o l,M.obj o=some l→o≠m:=fun o l hl e=>by rw [e,hmo] at hl;cases hl
  refine ⟨M,?_,?_,fun v' hv=>by obtain ⟨l,h1,_⟩:=hv.mapSome;rw [hmo] at h1;cases h1⟩
  ·exact ⟨hs.glob,hs.phi,fun o l hl ha=>hs.sep o l hl (alv o (hs.lt o l hl) ha).1,hs.base,fun o l hl=>⟨by have:=hs.lt o l hl;simp;omega,(hs.dom o l hl).2⟩,
    fun o l t c g hl hob=>hs.obj o l t c g hl (by rw [← get o (hs.lt o l hl) (ne o l hl)];exact hob),fun o l es ck hl hob=>hs.mp o l es ck hl (by rw [← get o (hs.lt o l hl) (ne o l hl)];exact hob),
    fun o₁ o₂ l₁ l₂ h1 h2 h3 h4=>hs.inj o₁ o₂ l₁ l₂ h1 h2 (alv o₁ (hs.lt o₁ l₁ h1) h3).1 (alv o₂ (hs.lt o₂ l₂ h2) h4).1,hs.gany,hs.tabs⟩
  ·exact ⟨rfl,rfl,rfl,fun _=>Nat.le_refl _,Nat.le_refl _,fun _ _ _=>rfl,by simp,fun o ho=>get o (by omega) (by omega),fun o ho ha=>(alv o ho ha).1,fun _ _=>rfl,.refl M,fun _ _ hn=>hn,
    fun o l ho hl ha hr=>.inr ⟨o,l,ho,hl,(alv o (hs.lt o l hl) ha).1,hr,rfl⟩,fun b y v hv=>.inl hv⟩
 | some l =>
  have hle:M.Le (M.put h.length l):=Mem.put_le fun l₀ h0=>by rw [hnone] at h0;cases h0
  have old:∀ o l',o≠h.length→(M.put h.length l).obj o=some l'→M.obj o=some l':=fun o l' ho hl'=>by rw [Mem.put_ne ho] at hl';exact hl'
  have new:∀ l',(M.put h.length l).obj h.length=some l'→l'=l:=fun l' hl'=>by rw [Mem.put_self] at hl';cases hl';rfl
  refine ⟨M.put h.length l,?_,?_,fun v' hv=>?_⟩
  ·refine ⟨fun g v hg=>(hs.glob g v hg).mono hle,hs.phi,fun o l' hl' ha hr=>?_,hs.base,fun o l' hl'=>?_,fun o l' t c g hl' hob'=>?_,fun o l' es' ck' hl' hob'=>?_,fun o₁ o₂ l₁ l₂ h1 h2 h3 h4 r1 r2 e=>?_,hs.gany,hs.tabs⟩
   ·by_cases e:o=h.length
    ·subst e;rw [new l' hl'] at hr ⊢; exact hs.sep m l hmo am hr
    ·have:=old o l' e hl';exact hs.sep o l' this (alv o (hs.lt o l' this) ha).1 hr
   ·by_cases e:o=h.length
    ·subst e;rw [new l' hl'];exact ⟨by simp,(hs.dom m l hmo).2⟩
    ·have:=old o l' e hl';exact ⟨by have:=hs.lt o l' this;simp;omega,(hs.dom o l' this).2⟩
   ·by_cases e:o=h.length
    ·subst e;rw [getn] at hob';cases hob'
    ·have h1:=old o l' e hl'
     have hne:o≠m:=fun e=>by rw [e,getm] at hob';cases hob'
     obtain ⟨q1,q2,q3,q4⟩:=hs.obj o l' t c g h1 (by rw [← get o (hs.lt o l' h1) hne];exact hob')
     refine ⟨q1,q2,q3,fun hr=>?_⟩
     obtain ⟨cs,ty,r1,r2,r3,r4⟩:=q4 hr
     exact ⟨cs,ty,r1,r2,r3,fun j v hj=>by obtain ⟨s1,v',s2,s3⟩:=r4 j v hj;exact ⟨s1,v',s2,s3.mono hle⟩⟩
   ·have key:∀ o₀ (l₀:Loc),M.obj o₀=some l₀→h[o₀]?=some (.map es' ck')→l₀.grown=0∧∃ es'':Array MapEntry,w.heap[l₀.blk]?=some (.map es'' ck')∧es''.size=es'.length ∧
      ∀ (i:Nat) e,es'[i]?=some e→∃ e',es''[i]?=some e'∧(flat e.key=true∧e'.key=e.key)∧VRel (M.put h.length l) e.val e'.val∧e'.born=e.born:=fun o₀ l₀ h1 h2=>by
     obtain ⟨q1,es'',q2,q3,q4⟩:=hs.mp o₀ l₀ es' ck' h1 h2
     exact ⟨q1,es'',q2,q3,fun i e he=>by obtain ⟨e',s1,s2,s3,s4⟩:=q4 i e he;exact ⟨e',s1,s2,s3.mono hle,s4⟩⟩
    by_cases e:o=h.length
    ·subst e;rw [getn] at hob';cases hob';rw [new l' hl'];exact key m l hmo hob
    ·have h1:=old o l' e hl'
     have hne:o≠m:=fun e=>by rw [e,getm] at hob';cases hob'
     exact key o l' h1 (by rw [← get o (hs.lt o l' h1) hne];exact hob')
   ·by_cases e1:o₁=h.length
    ·by_cases e2:o₂=h.length
     ·rw [e1,e2]
     ·subst e1
      have q2:=old o₂ l₂ e2 h2
      obtain ⟨a2,n2⟩:=alv o₂ (hs.lt o₂ l₂ q2) h4
      rw [new l₁ h1] at r1 e
      exact absurd (hs.inj m o₂ l l₂ hmo q2 am a2 r1 r2 e).symm n2
    ·have q1:=old o₁ l₁ e1 h1
     obtain ⟨a1,n1⟩:=alv o₁ (hs.lt o₁ l₁ q1) h3
     by_cases e2:o₂=h.length
     ·subst e2
      rw [new l₂ h2] at r2 e
      exact absurd (hs.inj o₁ m l₁ l q1 hmo a1 am r1 r2 e) n1
     ·have q2:=old o₂ l₂ e2 h2
      exact hs.inj o₁ o₂ l₁ l₂ q1 q2 a1 (alv o₂ (hs.lt o₂ l₂ q2) h4).1 r1 r2 e
  ·refine ⟨rfl,rfl,rfl,fun _=>Nat.le_refl _,Nat.le_refl _,fun _ _ _=>rfl,by simp,fun o ho=>get o (by omega) (by omega),fun o ho ha=>(alv o ho ha).1,fun o ho=>Mem.put_ne (by omega),hle,fun o ho hn=>by rw [Mem.put_ne (by omega)];exact hn,
    fun o l' ho hl' ha hr=>?_,fun b y v hv=>.inl hv⟩
   by_cases e:o=h.length
   ·subst e;rw [new l' hl'] at hr ⊢; exact .inr ⟨m,l,hlo,hmo,am,hr,rfl⟩
   ·have h1:=old o l' e hl'
    exact .inr ⟨o,l',ho,h1,(alv o (hs.lt o l' h1) ha).1,hr,rfl⟩
  ·obtain ⟨l',h1,h2,rfl⟩:=hv.mapSome
   have:=old m l' (by omega) h1
   rw [hmo] at this;cases this
   exact .map _ l Mem.put_self h2
theorem prepare_sound {lo:Nat} {t:Array Value}:∀ (l:List Dir) (σ σ':Slots) (h h':Heap) (M:Mem),prepare E.P lo l σ h=some (σ',h')→lo≤h.length→SRel M σ t→HSim E B M h w →
  ∃ M',SRel M' σ' t∧HSim E B M' h' w∧Evo E lo M h w M' h' w
 | [],σ,σ',h,h',M,hr,_,hσ,hs=>by
  simp only [prepare,Option.some.injEq,Prod.mk.injEq] at hr
  obtain ⟨rfl,rfl⟩:=hr
  exact ⟨M,hσ,hs,Evo.refl hs lo⟩
 | d :: l,σ,σ',h,h',M,hr,hlo,hσ,hs=>by
  simp only [prepare,Option.bind_eq_some_iff] at hr
  obtain ⟨⟨σ1,h1⟩,h2,hr⟩:=hr
  have k1:∃ M',SRel M' σ1 t∧HSim E B M' h1 w∧Evo E lo M h w M' h1 w:=by
   cases d with
   | top s =>
    simp only [prep1,Option.some.injEq,Prod.mk.injEq] at h2
    obtain ⟨rfl,rfl⟩:=h2
    exact ⟨M,hσ.set s fun _ _=>.top _,hs,Evo.refl hs lo⟩
   | frz s =>
    simp only [prep1,Option.map_eq_some_iff,Prod.mk.injEq] at h2
    obtain ⟨⟨r,hh⟩,hf,rfl,rfl⟩:=h2
    have hv:=hσ.getD s
    obtain ⟨M',q1,q2,q3⟩:=freezeV_ok depth h _ r hh hf M w _ hs hv
    refine ⟨M',(hσ.mono q2.le).set s fun v' hv'=>?_,q1,q2⟩
    rw [show t.getD s undef=v' by simp [Array.getD_eq_getD_getElem?,hv']] at q3
    exact q3.toV
   | new s ty =>
    simp only [prep1] at h2
    split at h2
    ·rename_i he
     simp only [Option.bind_eq_some_iff] at h2
     obtain ⟨n,hn,h2⟩:=h2
     split at h2
     ·cases h2
     ·rename_i hn0
      simp only [Option.some.injEq,Prod.mk.injEq] at h2
      obtain ⟨rfl,rfl⟩:=h2
      obtain ⟨q1,q2⟩:=hs.virt (t:=ty) hn0
      have q2:=q2 lo hlo
      refine ⟨_,(hσ.mono q2.le).set s fun v' hv'=>?_,q1,q2⟩
      have hv:=hσ.at hv'
      rw [he] at hv
      obtain ⟨rfl,_⟩:=hv.sliceNone
      exact .empty _ 0 _ rfl Mem.put_self hn0 (Nat.le_refl _)
    ·rename_i he
     simp only [Option.bind_eq_some_iff] at h2
     obtain ⟨n,hn,h2⟩:=h2
     split at h2
     ·cases h2
     ·rename_i hn0
      simp only [Option.some.injEq,Prod.mk.injEq] at h2
      obtain ⟨rfl,rfl⟩:=h2
      obtain ⟨q1,q2⟩:=hs.virt (t:=ty) hn0
      have q2:=q2 lo hlo
      refine ⟨_,(hσ.mono q2.le).set s fun v' hv'=>?_,q1,q2⟩
      have hv:=hσ.at hv'
      rw [he] at hv
      rcases hv.treeSome.lstSome (by decide) with ⟨rfl,_⟩ | ⟨a',cap',s',f',rfl,_,hx,_⟩
      ·exact .empty _ 0 _ rfl Mem.put_self hn0 (Nat.le_refl _)
      ·have hx:=hx rfl
       simp only [List.length_nil] at hx
       subst hx
       exact .slice _ _ 0 0 0 (Nat.le_refl _) ⟨_,Mem.put_self,hn0,Nat.le_refl _,fun _=>⟨Nat.le_refl _,.inl rfl⟩⟩
    ·simp only [Option.some.injEq,Prod.mk.injEq] at h2
     obtain ⟨rfl,rfl⟩:=h2
     exact ⟨M,hσ,hs,Evo.refl hs lo⟩
   | still =>
    simp only [prep1,Option.some.injEq,Prod.mk.injEq] at h2
    obtain ⟨rfl,rfl⟩:=h2
    exact ⟨M,hσ,hs,Evo.refl hs lo⟩
   | fix s =>
    simp only [prep1,Option.some.injEq,Prod.mk.injEq] at h2
    obtain ⟨rfl,rfl⟩:=h2
    exact ⟨M,hσ,hs,Evo.refl hs lo⟩
   | calm s =>
    simp only [prep1,Option.some.injEq,Prod.mk.injEq] at h2
    obtain ⟨rfl,rfl⟩:=h2
    exact ⟨M,hσ,hs,Evo.refl hs lo⟩
   | late s =>
    simp only [prep1] at h2
    split at h2
    case h_2=>cases h2
    rename_i a _
    split at h2
    case h_2=>cases h2
    rename_i ty c g hob
    split at h2
    case h_2=>cases h2
    rename_i m hcm
    split at h2
    case h_2=>cases h2
    rename_i es ck hm
    split at h2
    case isFalse=>cases h2
    rename_i hc
    simp only [Option.some.injEq,Prod.mk.injEq] at h2
    obtain ⟨rfl,rfl⟩:=h2
    have hne:a.block≠m:=fun e=>by rw [e,hm] at hob;cases hob
    have hlt:a.block<h.length:=(List.getElem?_eq_some_iff.1 hob).1
    obtain ⟨M1,q1,q2,q3⟩:=hs.moved hm hc.2
    have hob2:(h.set m AObj.dead++[AObj.map es ck])[a.block]?=some (.cells ty c g):=by
     rw [List.getElem?_append_left (by simpa using hlt),List.getElem?_set_ne (Ne.symm hne)]
     exact hob
    cases hmo:M1.obj a.block with
    | none =>
     rcases q1.nobody (lo:=lo) (y:=.cells ty (c.set a.off (.map (some h.length))) g) hmo hob2 (by simp) with ⟨r1,r2⟩ | hn
     ·exact ⟨M1,hσ.mono q2.le,r1,q2.trans r2⟩
     ·exact absurd hc.1 hn
    | some l =>
     obtain ⟨r1,r2⟩:=q1.recell (lo:=lo) (d:=c.set a.off (.map (some h.length))) hmo hob2 hc.1 (List.length_set ..) fun j u v v' hu hv hrel=>by
      by_cases hj:a.off=j
      ·subst hj
       have hlt2:a.off<c.length:=(List.getElem?_eq_some_iff.1 hu).1
       rw [List.getElem?_set_self hlt2] at hv
       cases hv
       rw [hcm] at hu;cases hu
       exact ⟨rfl,q3 v' hrel⟩
      ·rw [List.getElem?_set_ne hj,hu] at hv
       cases hv
       refine ⟨?_,hrel⟩
       obtain ⟨_,_,hnr,hre⟩:=q1.obj _ l ty c g hmo hob2
       by_cases hr:l.real
       ·obtain ⟨_,_,_,_,_,r4⟩:=hre hr
        exact (r4 j u hu).1
       ·have:=hnr hr
        subst this
        simp at hu
     exact ⟨M1,hσ.mono q2.le,r1,q2.trans r2⟩
   | news s ty =>
    simp only [prep1] at h2
    split at h2
    case h_2=>cases h2
    rename_i a len cap hval
    split at h2
    case h_2=>cases h2
    rename_i tc c g hob
    simp only [Option.bind_eq_some_iff] at h2
    obtain ⟨n,hn,h2⟩:=h2
    split at h2
    case isFalse=>cases h2
    rename_i hc
    simp only [Option.some.injEq,Prod.mk.injEq] at h2
    obtain ⟨rfl,rfl⟩:=h2
    have hlt:a.block<h.length:=(List.getElem?_eq_some_iff.1 hob).1
    obtain ⟨M1,q1,q2,q3⟩:=HSim.virts (t:=ty) hc.1 c.length hs
    have ev:=q2 lo hlo
    have hob2:(h++List.replicate c.length (AObj.cells ty [] n))[a.block]?=some (.cells tc c g):=by rw [List.getElem?_append_left hlt];exact hob
    cases hmo:M1.obj a.block with
    | none =>
     refine ⟨M1,hσ.mono ev.le,?_,?_⟩
     ·have e:(h.set a.block (AObj.cells tc (nilRows h.length c.length) g)++List.replicate c.length (AObj.cells ty [] n))=(h++List.replicate c.length (AObj.cells ty [] n)).set a.block (AObj.cells tc (nilRows h.length c.length) g):=by
       rw [List.set_append_left _ _ hlt]
      rw [e]
      have al:∀ o,o≠a.block→((h++List.replicate c.length (AObj.cells ty [] n)).set a.block (AObj.cells tc (nilRows h.length c.length) g))[o]?=(h++List.replicate c.length (AObj.cells ty [] n))[o]?:=fun o ho=>List.getElem?_set_ne (Ne.symm ho)
      have ne:∀ o l,M1.obj o=some l→o≠a.block:=fun o l hl e=>by rw [e,hmo] at hl;cases hl
      have alv:∀ o l,M1.obj o=some l→alive ((h++List.replicate c.length (AObj.cells ty [] n)).set a.block (AObj.cells tc (nilRows h.length c.length) g)) o→alive (h++List.replicate c.length (AObj.cells ty [] n)) o:=fun o l hl ⟨x,hx,hx'⟩=>⟨x,by rw [← al o (ne o l hl)];exact hx,hx'⟩
      exact ⟨q1.glob,q1.phi,fun o l hl ha=>q1.sep o l hl (alv o l hl ha),q1.base,fun o l hl=>by simpa using q1.dom o l hl,fun o l t c g hl hob=>q1.obj o l t c g hl (by rw [← al o (ne o l hl)];exact hob),
       fun o l es ck hl hob=>q1.mp o l es ck hl (by rw [← al o (ne o l hl)];exact hob),fun o₁ o₂ l₁ l₂ h1 h2 h3 h4=>q1.inj o₁ o₂ l₁ l₂ h1 h2 (alv o₁ l₁ h1 h3) (alv o₂ l₂ h2 h4),q1.gany,q1.tabs⟩
     ·refine ev.trans ⟨rfl,rfl,rfl,fun _=>Nat.le_refl _,Nat.le_refl _,fun _ _ _=>rfl,by simp,fun o ho=>?_,fun o _ ⟨x,hx,hx'⟩=>?_,fun _ _=>rfl,.refl M1,fun _ _ hn=>hn,fun o l ho hl ha hr=>?_,fun b y v hv=>.inl hv⟩
      ·rw [← List.set_append_left _ _ hlt]
       exact List.getElem?_set_ne (by omega)
      ·rw [← List.set_append_left _ _ hlt] at hx
       by_cases e:o=a.block
       ·subst e;exact ⟨_,hob2,by simp⟩
       ·rw [List.getElem?_set_ne (Ne.symm e)] at hx;exact ⟨x,hx,hx'⟩
      ·obtain ⟨x,hx,hx'⟩:=ha
       rw [← List.set_append_left _ _ hlt] at hx
       have e:o≠a.block:=fun e=>by rw [e,hmo] at hl;cases hl
       rw [List.getElem?_set_ne (Ne.symm e)] at hx
       exact .inr ⟨o,l,ho,hl,⟨x,hx,hx'⟩,hr,rfl⟩
    | some l =>
     obtain ⟨r1,r2⟩:=q1.recell (lo:=lo) (d:=nilRows h.length c.length) hmo hob2 hc.2.1 (nilRows_len _ _) fun j u v v' hu hv hrel=>by
      obtain ⟨hj,rfl⟩:=nilRows_get _ _ _ _ hv
      have hnil:=List.all_eq_true.1 hc.2.2 u (List.mem_of_getElem? hu)
      have:u=.slice none 0 0:=by
       unfold isNil at hnil
       split at hnil
       ·rfl
       ·cases hnil
      subst this
      obtain ⟨rfl,_⟩:=hrel.sliceNone
      exact ⟨rfl,.empty _ 0 _ rfl (q3 j hj) hc.1 (Nat.le_refl _)⟩
     rw [List.set_append_left _ _ hlt] at r1 r2
     exact ⟨M1,hσ.mono ev.le,r1,ev.trans r2⟩
   | newc s dd ty =>
    simp only [prep1] at h2
    split at h2
    case h_2=>cases h2
    rename_i a hval
    split at h2
    case h_2=>cases h2
    rename_i tc c g hob
    simp only [Option.bind_eq_some_iff] at h2
    obtain ⟨n,hn,h2⟩:=h2
    split at h2
    case isFalse=>cases h2
    rename_i hc
    simp only [Option.some.injEq,Prod.mk.injEq] at h2
    obtain ⟨rfl,rfl⟩:=h2
    have hlt:a.block<h.length:=(List.getElem?_eq_some_iff.1 hob).1
    obtain ⟨M1,q1,q2,q3⟩:=HSim.virts (t:=ty) hc.1 1 hs
    rw [show List.replicate 1 (AObj.cells ty [] n)=[AObj.cells ty [] n] from rfl] at q1 q2
    have ev:=q2 lo hlo
    have hob2:(h++[AObj.cells ty [] n])[a.block]?=some (.cells tc c g):=by rw [List.getElem?_append_left hlt];exact hob
    cases hmo:M1.obj a.block with
    | none =>
     refine ⟨M1,hσ.mono ev.le,?_,?_⟩
     ·have e:(h.set a.block (AObj.cells tc (c.set (a.off+dd) (.slice (some ⟨h.length,0,some 0⟩) 0 0)) g)++[AObj.cells ty [] n])=(h++[AObj.cells ty [] n]).set a.block (AObj.cells tc (c.set (a.off+dd) (.slice (some ⟨h.length,0,some 0⟩) 0 0)) g):=by
       rw [List.set_append_left _ _ hlt]
      rw [e]
      have al:∀ o,o≠a.block→((h++[AObj.cells ty [] n]).set a.block (AObj.cells tc (c.set (a.off+dd) (.slice (some ⟨h.length,0,some 0⟩) 0 0)) g))[o]?=(h++[AObj.cells ty [] n])[o]?:=fun o ho=>List.getElem?_set_ne (Ne.symm ho)
      have ne:∀ o l,M1.obj o=some l→o≠a.block:=fun o l hl e=>by rw [e,hmo] at hl;cases hl
      have alv:∀ o l,M1.obj o=some l→alive ((h++[AObj.cells ty [] n]).set a.block (AObj.cells tc (c.set (a.off+dd) (.slice (some ⟨h.length,0,some 0⟩) 0 0)) g)) o→alive (h++[AObj.cells ty [] n]) o:=fun o l hl ⟨x,hx,hx'⟩=>⟨x,by rw [← al o (ne o l hl)];exact hx,hx'⟩
      exact ⟨q1.glob,q1.phi,fun o l hl ha=>q1.sep o l hl (alv o l hl ha),q1.base,fun o l hl=>by simpa using q1.dom o l hl,fun o l t c g hl hob=>q1.obj o l t c g hl (by rw [← al o (ne o l hl)];exact hob),
       fun o l es ck hl hob=>q1.mp o l es ck hl (by rw [← al o (ne o l hl)];exact hob),fun o₁ o₂ l₁ l₂ h1 h2 h3 h4=>q1.inj o₁ o₂ l₁ l₂ h1 h2 (alv o₁ l₁ h1 h3) (alv o₂ l₂ h2 h4),q1.gany,q1.tabs⟩
     ·refine ev.trans ⟨rfl,rfl,rfl,fun _=>Nat.le_refl _,Nat.le_refl _,fun _ _ _=>rfl,by simp,fun o ho=>?_,fun o _ ⟨x,hx,hx'⟩=>?_,fun _ _=>rfl,.refl M1,fun _ _ hn=>hn,fun o l ho hl ha hr=>?_,fun b y v hv=>.inl hv⟩
      ·rw [← List.set_append_left _ _ hlt]
       exact List.getElem?_set_ne (by omega)
      ·rw [← List.set_append_left _ _ hlt] at hx
       by_cases e:o=a.block
       ·subst e;exact ⟨_,hob2,by simp⟩
       ·rw [List.getElem?_set_ne (Ne.symm e)] at hx;exact ⟨x,hx,hx'⟩
      ·obtain ⟨x,hx,hx'⟩:=ha
       rw [← List.set_append_left _ _ hlt] at hx
       have e:o≠a.block:=fun e=>by rw [e,hmo] at hl;cases hl
       rw [List.getElem?_set_ne (Ne.symm e)] at hx
       exact .inr ⟨o,l,ho,hl,⟨x,hx,hx'⟩,hr,rfl⟩
    | some l =>
     obtain ⟨r1,r2⟩:=q1.recell (lo:=lo) (d:=c.set (a.off+dd) (.slice (some ⟨h.length,0,some 0⟩) 0 0)) hmo hob2 hc.2.1 (List.length_set ..) fun j u v v' hu hv hrel=>by
      by_cases hj:a.off+dd=j
      ·subst hj
       have hlt2:a.off+dd<c.length:=(List.getElem?_eq_some_iff.1 hu).1
       rw [List.getElem?_set_self hlt2] at hv
       cases hv
       have hnil:=hc.2.2
       rw [hu] at hnil
       have:u=.slice none 0 0:=by
        replace hnil:isNil u=true:=hnil
        unfold isNil at hnil
        split at hnil
        ·rfl
        ·cases hnil
       subst this
       obtain ⟨rfl,_⟩:=hrel.sliceNone
       have q3:=q3 0 (by omega)
       rw [Nat.add_zero] at q3
       exact ⟨rfl,.empty _ 0 _ rfl q3 hc.1 (Nat.le_refl _)⟩
      ·rw [List.getElem?_set_ne hj,hu] at hv
       cases hv
       obtain ⟨_,_,_,hre⟩:=q1.obj _ l tc c g hmo hob2
       refine ⟨?_,hrel⟩
       by_cases hr:l.real
       ·obtain ⟨_,_,_,_,_,r4⟩:=hre hr
        exact (r4 j u hu).1
       ·obtain ⟨_,_,hnr,_⟩:=q1.obj _ l tc c g hmo hob2
        have:=hnr hr
        subst this
        simp at hu
     rw [List.set_append_left _ _ hlt] at r1 r2
     exact ⟨M1,hσ.mono ev.le,r1,ev.trans r2⟩
  obtain ⟨M1,q1,q2,q3⟩:=k1
  obtain ⟨M2,r1,r2,r3⟩:=prepare_sound l σ1 σ' h1 h' M1 hr (Nat.le_trans hlo q3.len) q1 q2
  exact ⟨M2,r1,r2,q3.trans r3⟩
theorem region_sound {sl:Bool} (hP:GoodP E.P) {C:Callee} (hC:CSound E C) {lo id:Nat} {ops:Array Oper} {Q:Exit→Act→World→Prop} {σ':Slots} {h':Heap} {a:Act}
  (hr:runOps E C lo ops (withStrict E sl false ops) σ h=some (σ',h')) (hlo:lo≤h.length) (hσ:SRel M σ a.tmps) (hd:a.defers=[]) (hs:HSim E B M h w)
  (hQ:∀ a' w',Aft E B lo M h w σ' h' a' w'→Q .normal a' w'):(Code.region id ops false).wp E.P Q a w:=by
 refine wp_region ?_
 rw [List.range_eq_range']
 have:=ops_sound (ops:=ops) hP hC ops.toList 0 σ σ' h h' M a w (fun j=>by rw [Nat.zero_add];simp) (by rw [Nat.zero_add];simp) (by simpa [withStrict] using hr) hlo hσ hd hs (Evo.refl hs lo) hQ
 simpa using this
end
end Go.Proofs.YtplebjehcgcdeaaGreatDoor.Bm
