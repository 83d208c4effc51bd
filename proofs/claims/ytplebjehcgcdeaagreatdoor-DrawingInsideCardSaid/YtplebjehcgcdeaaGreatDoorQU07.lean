/-
 One operation of the abstract machine, and the machine's own. Conditions: what is called is sound already; no function is run-time's NumGoroutine.
-/
import Derived.Test.YtplebjehcgcdeaaGreatDoorQU06
namespace Go.Proofs.YtplebjehcgcdeaaGreatDoor.Bm
open Go Go.RowKit
def Mem.cut (M:Mem) (n:Nat):Mem:=⟨fun o=>if o<n then M.obj o else none,M.phi⟩
section
variable {E:Env} {B lo:Nat} {M M':Mem} {h h':Heap} {w w':World}
theorem cut_some {n o:Nat} {l:Loc} (h:(M.cut n).obj o=some l):o<n∧M.obj o=some l:=by
 unfold Mem.cut at h
 simp only at h
 split at h
 ·exact ⟨‹_›,h⟩
 ·cases h
theorem cut_of {n o:Nat} {l:Loc} (ho:o<n) (h:M.obj o=some l):(M.cut n).obj o=some l:=by simp [Mem.cut,ho,h]
theorem cut_le {n m:Nat} (h:n≤m):(M.cut n).Le (M.cut m) :=
 ⟨fun _ l hl=>⟨l,cut_of (Nat.lt_of_lt_of_le (cut_some hl).1 h) (cut_some hl).2,.refl l⟩,fun _ _ _ h=>h⟩
theorem cut_eq {n:Nat} (h:∀ o l,M.obj o=some l→o<n):M.cut n=M:=by
 unfold Mem.cut
 congr 1
 funext o
 split
 ·rfl
 ·cases hm:M.obj o with
  | none=>rfl
  | some l=>exact absurd (h o l hm) ‹_›
theorem VRel.cutTo {v v':Value} (hv:VRel M v v') {n:Nat}:∀ {d:Nat},Bm.below d n v=true→VRel (M.cut n) v v':=by
 induction hv with
 | top v=>intro d _;exact .top v
 | skip k=>intro d _;exact .skip k
 | atom v h=>intro d _;exact .atom v h
 | ptr a a' h =>
  intro d hb
  cases d <;> simp [Bm.below] at hb
  obtain ⟨l,h1,h2⟩:=h
  exact .ptr a a' ⟨l,cut_of hb h1,h2⟩
 | slice a a' len cap cap' hl h =>
  intro d hb
  cases d <;> simp [Bm.below] at hb
  obtain ⟨l,h1,h2⟩:=h
  exact .slice a a' len cap cap' hl ⟨l,cut_of hb h1,h2⟩
 | empty a k l hs h hg hk =>
  intro d hb
  cases d <;> simp [Bm.below] at hb
  exact .empty a k l hs (cut_of hb h) hg hk
 | map r l h hg =>
  intro d hb
  cases d <;> simp [Bm.below] at hb
  exact .map r l (cut_of hb h) hg
 | func fn x x' y y' hx hy h k ih ik =>
  intro d hb
  cases d with
  | zero=>simp [Bm.below] at hb
  | succ d =>
   obtain ⟨x⟩:=x
   obtain ⟨y⟩:=y
   simp only [Bm.below,Bool.and_eq_true,List.all_eq_true] at hb
   exact .func fn _ x' _ y' hx hy (fun i u u' hu hu'=>ih i u u' hu hu' (hb.1 u (List.mem_of_getElem? (by simpa using hu)))) fun i u u' hu hu'=>ik i u u' hu hu' (hb.2 u (List.mem_of_getElem? (by simpa using hu)))
 | iface t v v' _ ih =>
  intro d hb
  cases d with
  | zero=>simp [Bm.below] at hb
  | succ d=>exact .iface t v v' (ih (by simpa [Bm.below] using hb))
 | agg x x' hx h1 h ih =>
  intro d hb
  cases d with
  | zero=>simp [Bm.below] at hb
  | succ d =>
   obtain ⟨x⟩:=x
   simp only [Bm.below,List.all_eq_true] at hb
   exact .agg _ x' hx h1 fun i u u' hu hu'=>ih i u u' hu hu' (hb u (List.mem_of_getElem? (by simpa using hu)))
 | tuple x x' hx h ih =>
  intro d hb
  cases d with
  | zero=>simp [Bm.below] at hb
  | succ d =>
   obtain ⟨x⟩:=x
   simp only [Bm.below,List.all_eq_true] at hb
   exact .tuple _ x' hx fun i u u' hu hu'=>ih i u u' hu hu' (hb u (List.mem_of_getElem? (by simpa using hu)))
 | tree n x y v' h=>intro d _;exact .tree n x y v' h
theorem alive_take {n o:Nat} (ha:alive (h.take n) o):alive h o:=by
 obtain ⟨x,hx,hx'⟩:=ha
 rw [List.getElem?_take] at hx
 split at hx
 ·exact ⟨x,hx,hx'⟩
 ·cases hx
theorem HSim.take (hs:HSim E B M h w) {n:Nat} (hb:(h.take n).all (belowO n)=true):HSim E B (M.cut n) (h.take n) w:=by
 rw [List.all_eq_true] at hb
 have up:∀ {o x},(h.take n)[o]?=some x→h[o]?=some x:=fun {o x} hx=>by
  rw [List.getElem?_take] at hx
  split at hx
  ·exact hx
  ·cases hx
 refine ⟨fun g v hg=>.tree _ _ _ _ (hs.glob g v hg).treeSome,hs.phi,fun o l hl ha hr x=>hs.sep o l (cut_some hl).2 (alive_take ha) hr x,hs.base,fun o l hl=>?_,fun o l t c g hl ho=>?_,fun o l es ck hl ho=>?_,
  fun o₁ o₂ l₁ l₂ h1 h2 h3 h4=>hs.inj o₁ o₂ l₁ l₂ (cut_some h1).2 (cut_some h2).2 (alive_take h3) (alive_take h4),hs.gany,hs.tabs⟩
 ·obtain ⟨h1,h2⟩:=cut_some hl
  obtain ⟨h3,h4⟩:=hs.dom o l h2
  exact ⟨by simp;omega,h4⟩
 ·obtain ⟨q1,q2,q3,q4⟩:=hs.obj o l t c g (cut_some hl).2 (up ho)
  refine ⟨q1,q2,q3,fun hr=>?_⟩
  obtain ⟨cs,ty,r1,r2,r3,r4⟩:=q4 hr
  refine ⟨cs,ty,r1,r2,r3,fun j v hv=>⟨(r4 j v hv).1,?_⟩⟩
  obtain ⟨v',k1,k2⟩:=(r4 j v hv).2
  have hbo:=hb _ (List.mem_of_getElem? ho)
  simp only [belowO,List.all_eq_true] at hbo
  exact ⟨v',k1,k2.cutTo (hbo v (List.mem_of_getElem? hv))⟩
 ·obtain ⟨q1,es',q2,q3,q4⟩:=hs.mp o l es ck (cut_some hl).2 (up ho)
  refine ⟨q1,es',q2,q3,fun i e he=>?_⟩
  obtain ⟨e',r1,r2,r3,r4⟩:=q4 i e he
  have hbo:=hb _ (List.mem_of_getElem? ho)
  simp only [belowO,List.all_eq_true,Bool.and_eq_true] at hbo
  exact ⟨e',r1,r2,r3.cutTo (hbo e (List.mem_of_getElem? he)).2,r4⟩
theorem trim_sound (hs:HSim E B M h w) (hs':HSim E B M' h' w') (ev:Evo E lo M h w M' h' w') (hlo:lo≤h.length) (vs:List Value) :
  ∃ M₂,HSim E B M₂ (trim h.length vs h') w'∧Evo E lo M h w M₂ (trim h.length vs h') w'∧∀ v∈vs,∀ v',VRel M' v v'→VRel M₂ v v':=by
 unfold trim
 split
 ·exact ⟨M',hs',ev,fun _ _ _ h=>h⟩
 ·split
  ·rename_i hb
   rw [Bool.and_eq_true,List.all_eq_true] at hb
   refine ⟨M'.cut h.length,hs'.take hb.2,⟨ev.os,ev.tape,ev.output,ev.drawn,ev.size,ev.block,by rw [List.length_take];exact Nat.le_min.2 ⟨Nat.le_refl _,ev.len⟩,fun o ho=>?_,fun o ho ha=>ev.dead o ho (alive_take ha),fun o ho=>?_,?_,fun o ho hn=>?_,fun o l ho hl ha hr=>ev.own o l ho (cut_some hl).2 (alive_take ha) hr,ev.fro⟩,fun v hv v' hr=>hr.cutTo (hb.1 v hv)⟩
   ·rw [List.getElem?_take,if_pos (by omega)];exact ev.keep o ho
   ·rw [← ev.ext o ho];simp [Mem.cut];omega
   ·refine ⟨fun o l hl=>?_,ev.le.phi⟩
    obtain ⟨l',h1,h2⟩:=ev.le.obj o l hl
    exact ⟨l',cut_of (hs.lt o l hl) h1,h2⟩
   ·have:=ev.non o ho hn
    simp [Mem.cut,this]
  ·exact ⟨M',hs',ev,fun _ _ _ h=>h⟩
end
end Go.Proofs.YtplebjehcgcdeaaGreatDoor.Bm
namespace Go.Proofs.YtplebjehcgcdeaaGreatDoor.Bm
open Go Go.RowKit
def GoodP (P : Program) : Prop := ∀ (f : FuncId) fn, P.funcs[f]? = some fn → fn.body.isSome = true → (fn.name == "runtime.NumGoroutine") = false
structure CSound (E:Env) (C:Callee):Prop where
 dfd:∀ f args h lo r,C f args h lo=some r→∃ fn,E.P.funcs[f]?=some fn∧fn.body.isSome=true
 snd:∀ f args h lo v h',C f args h lo=some (v,h')→lo≤h.length→∀ B M w (args':Array Value),HSim E B M h w→VRels M args args'.toList →
  Calls E.P f args' w fun e w'=>∃ v',e=.returned v'∧Out E B lo M h w v h' v' w'
def loOf (E:Env) (strict:Bool) (op:Op) (lo:Nat) (h:Heap):Nat:=if strict || clsOf E op != .write then h.length else lo
section
variable {E:Env} {B:Nat} {M:Mem} {h:Heap} {w:World}
theorem vrels_map {ρA ρC:Operand→Value} {l:List Operand} (hr:∀ x∈l,VRel M (ρA x) (ρC x)):VRels M (l.map ρA) (l.map ρC):=by
 refine ⟨by simp,fun i u u' hu hu'=>?_⟩
 simp only [List.getElem?_map,Option.map_eq_some_iff] at hu hu'
 obtain ⟨x,hx,rfl⟩:=hu
 obtain ⟨x',hx',rfl⟩:=hu'
 rw [hx] at hx';cases hx'
 exact hr x (List.mem_of_getElem? hx)
theorem orel_map {ρA ρC:Operand→Value} {o:Option Operand} (hr:∀ x,o=some x→VRel M (ρA x) (ρC x)):ORel M (o.map ρA) (o.map ρC):=by
 cases o with
 | none=>exact .inl ⟨rfl,rfl⟩
 | some x=>exact .inr ⟨_,_,rfl,rfl,hr x rfl⟩
theorem parts_rel {ρA ρC:Operand→Value} {ps:Array (Nat × Operand)} (hr:∀ p∈ps,VRel M (ρA p.2) (ρC p.2)) (i:Nat) (p p':Nat × Value)
  (hp:(ps.map fun (j,x)=>(j,ρA x))[i]?=some p) (hp':(ps.map fun (j,x)=>(j,ρC x))[i]?=some p'):p.1=p'.1∧VRel M p.2 p'.2:=by
 simp only [Array.getElem?_map,Option.map_eq_some_iff] at hp hp'
 obtain ⟨⟨j,x⟩,hx,rfl⟩:=hp
 obtain ⟨⟨j',x'⟩,hx',rfl⟩:=hp'
 rw [hx] at hx';cases hx'
 exact ⟨rfl,hr _ (Array.mem_of_getElem? hx)⟩
theorem scalar_any {v v':Value} (hv:VRel ⟨fun _=>none,fun _ _=>none⟩ v v'):VRel M v v' :=
 hv.mono ⟨fun _ _ h=>(by cases h),fun _ _ _ h=>(by cases h)⟩
def after (Ψ:Phi) (w w':World):Phi:=fun b x=>if b<w.heap.size then Ψ b x else w'.cell? ⟨b,x,none⟩
structure Past (E:Env) (w w':World):Prop where
 os:w'.os=w.os
 tape:w'.tape=w.tape
 output:w'.output=w.output
 drawn:E.dm=true→w.drawn≤w'.drawn
 size:w.heap.size≤w'.heap.size
 block:∀ b,b<w.heap.size→w'.heap[b]?=w.heap[b]?
def RRel (Ψ:Phi) (r v':Value):Prop:=r=.tuple #[]∨TRel Ψ r v'∨∃ (x x':Array Value),r=.tuple x∧v'=.tuple x'∧x.size=x'.size∧∀ (i:Nat) u u',x[i]?=some u→x'[i]?=some u'→TRel Ψ u u'
theorem RRel.toV {r v':Value} (h:RRel M.phi r v'):VRel M r v':=by
 rcases h with rfl | h | ⟨x,x',rfl,rfl,hx,h⟩
 ·exact .top _
 ·exact h.toV
 ·exact .tuple _ _ hx fun i u u' hu hu'=>(h i u u' hu hu').toV
theorem pure_sound {C:Callee} (hC:CSound E C) (hs:HSim E B M h w) {Ψ:Phi} (h1:∀ b x v,M.phi b x=some v→Ψ b x=some v) (h2:∀ b x v,Ψ b x=some v→w.cell? ⟨b,x,none⟩=some v)
  {f:FuncId} {args:List Value} {args':Array Value} {r:Value} (ha:VRels ⟨fun _=>none,Ψ⟩ args args'.toList) (hc:pureCall E.P C f args=some r) :
  Calls E.P f args' w fun e w'=>∃ v',e=.returned v'∧Past E w w'∧RRel (after Ψ w w') r v':=by
 unfold pureCall at hc
 simp only [Option.bind_eq_some_iff] at hc
 obtain ⟨⟨v,h''⟩,hcall,hr⟩:=hc
 have hs0:HSim E w.heap.size ⟨fun _=>none,Ψ⟩ [] w :=
  ⟨fun g v hg=>.tree _ _ _ _ ((hs.glob g v hg).treeSome.mono h1),h2,fun o l hl=>(by cases hl),Nat.le_refl _,fun o l hl=>(by cases hl),fun o l t c g hl=>(by cases hl),fun o l es ck hl=>(by cases hl),fun o₁ o₂ l₁ l₂ hl=>(by cases hl),fun g hg=>(hs.gany g hg).imp fun _ q=>h1 _ _ _ q,fun g cs hg=>⟨Nat.lt_of_lt_of_le (hs.tabs g cs hg).1 hs.base,(hs.tabs g cs hg).2⟩⟩
 refine (hC.snd f args [] 0 v h'' hcall (Nat.le_refl _) _ _ w args' hs0 ha).mono ?_
 rintro e w' ⟨v',rfl,M2,k1,k2,k3⟩
 have noHad:∀ b,¬ Had 0 ⟨fun _=>none,Ψ⟩ [] b:=by
  rintro b ⟨o,l,_,hl,_⟩;cases hl
 have past:Past E w w':=⟨k3.os,k3.tape,k3.output,k3.drawn,k3.size,fun b hb=>k3.block b hb (noHad b)⟩
 have st:Still M2 h'' w' (after Ψ w w'):=by
  refine ⟨fun b x u hu=>?_,fun o l hl ha hr x u hu=>?_⟩
  ·unfold after
   split
   ·rename_i hb
    rcases k3.fro b x u hu with h | h | h
    ·exact h
    ·omega
    ·exact absurd h (noHad b)
   ·exact k2.phi b x u hu
  ·unfold after
   rw [if_neg (by have:=((k2.dom o l hl).2 hr).1;omega)]
   exact hu
 refine ⟨v',rfl,past,?_⟩
 unfold reifyR at hr
 simp only at hr
 split at hr
 ·rename_i vs
  simp only [Option.map_eq_some_iff] at hr
  obtain ⟨rs,hrs,rfl⟩:=hr
  obtain ⟨q1,q2⟩:=mapM_some hrs
  by_cases h0:vs=[]
  ·subst h0
   left
   rw [List.eq_nil_of_length_eq_zero q1]
  ·obtain ⟨x',rfl,hx,hc⟩:=k1.tupleSome (by simpa using h0)
   refine .inr (.inr ⟨_,x',rfl,rfl,by simpa [q1] using hx,fun i u u' hu hu'=>?_⟩)
   have hi:i<vs.length:=by rw [← q1];have:=(Array.getElem?_eq_some_iff.1 hu).1;simpa using this
   obtain ⟨y,hy,hyr⟩:=q2 i vs[i] (List.getElem?_eq_getElem hi)
   have : u = y := by have e : rs[i]? = some u := by simpa using hu
                      rw [hy] at e;exact (Option.some.inj e).symm
   subst this
   exact reify_sound k2 st _ _ _ _ hyr (hc i vs[i] u' (by simp [hi]) hu')
 ·exact .inr (.inl (reify_sound k2 st _ _ _ _ hr k1))
theorem HSim.past {w':World} (hs:HSim E B M h w) (p:Past E w w') {Ψ:Phi} (h1:∀ b x v,M.phi b x=some v→Ψ b x=some v) (h2:∀ b x v,Ψ b x=some v→w'.cell? ⟨b,x,none⟩=some v)
  (h3:∀ b x,b<w.heap.size→Ψ b x=M.phi b x):HSim E B ⟨M.obj,Ψ⟩ h w':=by
 have le:M.Le ⟨M.obj,Ψ⟩:=⟨fun o l hl=>⟨l,hl,.refl l⟩,h1⟩
 refine ⟨fun g v hg=>(hs.glob g v hg).mono le,h2,fun o l hl ha hr x=>?_,Nat.le_trans hs.base p.size,fun o l hl=>?_,fun o l t c g hl ho=>?_,fun o l es ck hl ho=>?_,hs.inj,fun g hg=>(hs.gany g hg).imp fun _ q=>le.phi _ _ _ q,fun g cs hg=>⟨(hs.tabs g cs hg).1,by rw [p.block g (Nat.lt_of_lt_of_le (hs.tabs g cs hg).1 hs.base)];exact (hs.tabs g cs hg).2⟩⟩
 ·exact (h3 _ _ ((hs.dom o l hl).2 hr).2).trans (hs.sep o l hl ha hr x)
 ·exact ⟨(hs.dom o l hl).1,fun hr=>⟨((hs.dom o l hl).2 hr).1,Nat.lt_of_lt_of_le ((hs.dom o l hl).2 hr).2 p.size⟩⟩
 ·obtain ⟨q1,q2,q3,q4⟩:=hs.obj o l t c g hl ho
  refine ⟨q1,q2,q3,fun hr=>?_⟩
  obtain ⟨cs,ty,r1,r2,r3,r4⟩:=q4 hr
  exact ⟨cs,ty,by rw [p.block _ ((hs.dom o l hl).2 hr).2];exact r1,r2,r3,fun j v hv=>⟨(r4 j v hv).1,(r4 j v hv).2.imp fun _ k=>⟨k.1,k.2.mono le⟩⟩⟩
 ·obtain ⟨q1,es',q2,q3,q4⟩:=hs.mp o l es ck hl ho
  refine ⟨q1,es',by rw [p.block _ ((hs.dom o l hl).2 (.inl q1)).2];exact q2,q3,fun i e he=>?_⟩
  obtain ⟨e',r1,r2,r3,r4⟩:=q4 i e he
  exact ⟨e',r1,r2,r3.mono le,r4⟩
theorem Evo.past {w':World} (_hs:HSim E B M h w) (p:Past E w w') {Ψ:Phi} (h1:∀ b x v,M.phi b x=some v→Ψ b x=some v)
  (h3:∀ b x,b<w.heap.size→Ψ b x=M.phi b x) (lo:Nat):Evo E lo M h w ⟨M.obj,Ψ⟩ h w' :=
 ⟨p.os,p.tape,p.output,p.drawn,p.size,fun b hb _=>p.block b hb,Nat.le_refl _,fun _ _=>rfl,fun _ _ ha=>ha,fun _ _=>rfl,⟨fun o l hl=>⟨l,hl,.refl l⟩,h1⟩,fun _ _ hn=>hn,
  fun o l ho hl ha hr=>.inr ⟨o,l,ho,hl,ha,hr,rfl⟩,fun b x v hv=>by
   by_cases hb:b<w.heap.size
   ·exact .inl ((h3 b x hb).symm.trans hv)
   ·exact .inr (.inl (Nat.le_of_not_lt hb))⟩
theorem cell_lt {b x:Nat} {v:Value} (hv:w.cell? ⟨b,x,none⟩=some v):b<w.heap.size:=by
 apply Decidable.byContradiction
 intro hn
 have:w.heap[b]?=none:=Array.getElem?_eq_none (Nat.le_of_not_lt hn)
 simp [World.cell?,this] at hv
theorem call0_sound {C:Callee} (hC:CSound E C) (hs:HSim E B M h w) {f:FuncId} {args targs:List Value} {args':Array Value} {r:Value} {lo:Nat} (ha:VRels M args args'.toList)
  (ht:reifyAll E.P h args=some targs) (hc:pureCall E.P C f targs=some r) (hsc:scalar r=true) :
  Calls E.P f args' w fun e w'=>∃ v',e=.returned v'∧Out E B lo M h w r h v' w':=by
 have st:Still M h w (fun b x=>w.cell? ⟨b,x,none⟩):=⟨hs.phi,fun _ _ _ _ _ _ _ hv=>hv⟩
 obtain ⟨q1,q2⟩:=mapM_some ht
 have hv:VRels ⟨fun _=>none,fun b x=>w.cell? ⟨b,x,none⟩⟩ targs args'.toList:=by
  refine ⟨q1.trans ha.1,fun i u u' hu hu'=>?_⟩
  have hi:i<args.length:=by rw [← q1];exact (List.getElem?_eq_some_iff.1 hu).1
  obtain ⟨y,hy,hyr⟩:=q2 i args[i] (List.getElem?_eq_getElem hi)
  rw [hu] at hy;cases hy
  exact (reify_sound hs st _ _ _ _ hyr (ha.2 i _ u' (List.getElem?_eq_getElem hi) hu')).toV
 refine (pure_sound hC hs (Ψ:=fun b x=>w.cell? ⟨b,x,none⟩) hs.phi (fun _ _ _ hv=>hv) hv hc).mono ?_
 rintro e w' ⟨v',rfl,past,hrr⟩
 have hvr:VRel M r v':=by
  by_cases hu:r=.tuple #[]
  ·rw [hu];exact .top _
  ·exact scalar_any (VRel.scalar_eq hsc (RRel.toV (M:=⟨fun _=>none,_⟩) hrr) hu)
 have hcell:∀ b x v,M.phi b x=some v→w'.cell? ⟨b,x,none⟩=some v:=fun b x v hv=>by
  have h0:=hs.phi b x v hv
  rw [← h0];exact World.cell?_of_block (past.block b (cell_lt h0))
 exact ⟨v',rfl,M,hvr,hs.past past (Ψ:=M.phi) (fun _ _ _ h=>h) hcell (fun _ _ _=>rfl),Evo.past hs past (Ψ:=M.phi) (fun _ _ _ h=>h) (fun _ _ _=>rfl) lo⟩
theorem callT_sound {C:Callee} (hC:CSound E C) (hs:HSim E B M h w) {f:FuncId} {args:List Value} {args':Array Value} {r:Value} {lo:Nat} (hlen:args.length=args'.toList.length)
  (ht:∀ (i:Nat) u u',args[i]?=some u→args'.toList[i]?=some u'→TRel M.phi u u') (hc:pureCall E.P C f args=some r) :
  Calls E.P f args' w fun e w'=>∃ v',e=.returned v'∧Out E B lo M h w r h v' w':=by
 have hv:VRels ⟨fun _=>none,M.phi⟩ args args'.toList :=
  ⟨hlen,fun i u u' hu hu'=>TRel.toV (M:=⟨fun _=>none,M.phi⟩) (ht i u u' hu hu')⟩
 refine (pure_sound hC hs (Ψ:=M.phi) (fun _ _ _ h=>h) hs.phi hv hc).mono ?_
 rintro e w' ⟨v',rfl,past,hrr⟩
 have h3:∀ b x,b<w.heap.size→after M.phi w w' b x=M.phi b x:=fun b x hb=>by simp [after,hb]
 have h1:∀ b x v,M.phi b x=some v→after M.phi w w' b x=some v:=fun b x v hv=>by
  rw [h3 b x (cell_lt (hs.phi b x v hv))];exact hv
 have hcell:∀ b x v,after M.phi w w' b x=some v→w'.cell? ⟨b,x,none⟩=some v:=fun b x v hv=>by
  by_cases hb:b<w.heap.size
  ·rw [h3 b x hb] at hv
   have h0:=hs.phi b x v hv
   rw [← h0];exact World.cell?_of_block (past.block b hb)
  ·simpa [after,hb] using hv
 exact ⟨v',rfl,⟨M.obj,after M.phi w w'⟩,RRel.toV (M:=⟨M.obj,after M.phi w w'⟩) hrr,hs.past past h1 hcell h3,Evo.past hs past h1 h3 lo⟩
theorem call1_sound {C:Callee} (hC:CSound E C) (hs:HSim E B M h w) {f:FuncId} {args:List Value} {args':Array Value} {r:Value} {lo:Nat} (ha:VRels M args args'.toList)
  (ht:args.all (settled depth)=true) (hc:pureCall E.P C f args=some r) :
  Calls E.P f args' w fun e w'=>∃ v',e=.returned v'∧Out E B lo M h w r h v' w' :=
 callT_sound hC hs ha.1 (fun i u u' hu hu'=>(ha.2 i u u' hu hu').settle (List.all_eq_true.1 ht u (List.mem_of_getElem? hu))) hc
theorem plain_upon {o:Oper} {a:Act} {next:Act→World→Prop} {Q:Exit→Act→World→Prop} {s:Sem Value} {v':Value} {w':World}
  (he:execOp a.eval o=(do pure (.value (← s)))) (hr:s.run E.P w=.ok v' w') (hn:next (a.put o.dst v') w'):o.wp E.P a w next Q:=by
 unfold Oper.wp
 rw [he]
 simp [hr,Oper.upon]
 exact hn
theorem aop_sound (hP:GoodP E.P) {C:Callee} (hC:CSound E C) (hs:HSim E B M h w) {lo:Nat} (hlo:lo≤h.length) {strict:Bool} {o:Oper} {ρA:Operand→Value} {v:Value} {h':Heap}
  (hv:aop E C lo strict o.op ρA h=some (v,h')) {a:Act} (hr:∀ x∈o.op.operands,VRel M (ρA x) (a.eval x)) (hfun:∀ f,ρA (.func f)=.func (.func f) #[] #[]) {next:Act→World→Prop} {Q:Exit→Act→World→Prop}
  (hn:∀ v' w',Out E B (loOf E strict o.op lo h) M h w v h' v' w'→next (a.put o.dst v') w'):o.wp E.P a w next Q:=by
 have same:∀ {v':Value},VRel M v v'→h'=h→next (a.put o.dst v') w:=fun {v'} hvr e=>by subst e;exact hn _ _ (Out.same hs hvr)
 cases hop:o.op with
 | move x =>
  simp only [hop,aop,Option.some.injEq,Prod.mk.injEq] at hv
  obtain ⟨rfl,rfl⟩:=hv
  refine plain_upon (s:=pure (a.eval x)) (v':=a.eval x) (w':=w) (by simp [execOp,hop]) (by simp) (same (hr x (by simp [hop,Op.operands])) rfl)
 | assign x =>
  simp only [hop,aop,Option.some.injEq,Prod.mk.injEq] at hv
  obtain ⟨rfl,rfl⟩:=hv
  refine plain_upon (s:=pure (a.eval x)) (v':=a.eval x) (w':=w) (by simp [execOp,hop]) (by simp) (same (hr x (by simp [hop,Op.operands])) rfl)
 | pick c x y =>
  simp only [hop,aop] at hv
  split at hv
  ·rename_i t ht
   simp only [Option.some.injEq,Prod.mk.injEq] at hv
   obtain ⟨rfl,rfl⟩:=hv
   have hc:=hr c (by simp [hop,Op.operands])
   rw [ht] at hc
   have hcv:=hc.bool
   have hxv:=hr x (by simp [hop,Op.operands])
   have hyv:=hr y (by simp [hop,Op.operands])
   unfold Oper.wp
   simp [execOp,hop,hcv,asBool,Oper.upon]
   cases t
   ·exact same hyv rfl
   ·exact same hxv rfl
  ·cases hv
 | alloc t =>
  simp only [hop,aop] at hv
  obtain ⟨v',w',h1,h2⟩:=alloc_sound hs (lo:=loOf E strict o.op lo h) (by unfold loOf;split <;> omega) hv
  exact plain_upon (by simp [execOp,hop]) h1 (hn _ _ h2)
 | box t x =>
  simp only [hop,aop] at hv
  obtain ⟨v',w',h1,h2⟩:=box_sound (t:=t) hs (lo:=loOf E strict o.op lo h) (by unfold loOf;split <;> omega) hv (hr x (by simp [hop,Op.operands]))
  exact plain_upon (by simp [execOp,hop]) h1 (hn _ _ h2)
 | build t parts =>
  simp only [hop,aop,Option.map_eq_some_iff,Prod.mk.injEq] at hv
  obtain ⟨_,hb,rfl,rfl⟩:=hv
  obtain ⟨v',h1,h2⟩:=build_sound (w:=w) (parts':=parts.map fun (i,x)=>(i,a.eval x)) hb (by simp) (parts_rel fun p hp=>hr p.2 (by
   simp only [hop,Op.operands];simp;exact ⟨p.1,hp⟩))
  exact plain_upon (by simp [execOp,hop]) h1 (same h2 rfl)
 | buildSlice t len parts =>
  simp only [hop,aop] at hv
  obtain ⟨v',w',h1,h2⟩:=buildSlice_sound hs (lo:=loOf E strict o.op lo h) (by unfold loOf;split <;> omega) (parts':=parts.map fun (i,x)=>(i,a.eval x)) hv (by simp) (parts_rel fun p hp=>hr p.2 (by
   simp only [hop,Op.operands];simp;exact ⟨p.1,hp⟩))
  exact plain_upon (by simp [execOp,hop]) h1 (hn _ _ h2)
 | load t x =>
  simp only [hop,aop] at hv
  split at hv
  ·cases hv
  simp only [Option.map_eq_some_iff,Prod.mk.injEq] at hv
  obtain ⟨_,hb,rfl,rfl⟩:=hv
  obtain ⟨v',h1,h2⟩:=load_sound hs hb (hr x (by simp [hop,Op.operands]))
  exact plain_upon (by simp [execOp,hop]) h1 (same h2 rfl)
 | store t p x =>
  simp only [hop,aop] at hv
  split at hv
  ·cases hv
  rename_i hst
  simp only [Option.map_eq_some_iff,Prod.mk.injEq] at hv
  obtain ⟨_,hb,rfl,rfl⟩:=hv
  obtain ⟨w',h1,h2,h3⟩:=store_sound hs hb (hr x (by simp [hop,Op.operands])) (hr p (by simp [hop,Op.operands]))
  unfold Oper.wp
  simp [execOp,hop,h1,Oper.upon]
  refine hn _ _ ⟨M,.top _,h2,?_⟩
  have e:loOf E strict (.store t p x) lo h=lo:=by simp at hst;simp [loOf,clsOf,hst]
  rw [hop,e];exact h3
 | nilCheck x =>
  simp only [hop,aop] at hv
  have hx:=hr x (by simp [hop,Op.operands])
  split at hv
  ·rename_i p hp
   simp only [Option.some.injEq,Prod.mk.injEq] at hv
   obtain ⟨rfl,rfl⟩:=hv
   rw [hp] at hx
   have hx0:=hx
   obtain ⟨p',e,_⟩:=hx.ptrSome
   unfold Oper.wp
   simp [execOp,hop,e,Oper.upon]
   rw [← e];exact same hx0 rfl
  ·rename_i p q hp
   simp only [Option.some.injEq,Prod.mk.injEq] at hv
   obtain ⟨rfl,rfl⟩:=hv
   rw [hp] at hx
   have hx0:=hx
   obtain ⟨p',e⟩:∃ p',a.eval x=.pointer (some p'):=by
    have ht:=hx.treeSome
    generalize a.eval x=z at ht
    cases ht with
    | atom _ h=>simp [Bm.atom] at h
    | lnil _ hn=>omega
    | lst _ hn=>omega
    | cptr v a'=>exact ⟨a',rfl⟩
   unfold Oper.wp
   simp [execOp,hop,e,Oper.upon]
   rw [← e];exact same hx0 rfl
  ·rename_i f fst cap hp
   simp only [Option.some.injEq,Prod.mk.injEq] at hv
   obtain ⟨rfl,rfl⟩:=hv
   rw [hp] at hx
   have hx0:=hx
   obtain ⟨p',c',e,_⟩:=hx.funcSome
   unfold Oper.wp
   simp [execOp,hop,e,Oper.upon]
   rw [← e];exact same hx0 rfl
  ·cases hv
 | binOp op t x y yt =>
  simp only [hop,aop,Option.map_eq_some_iff,Prod.mk.injEq] at hv
  obtain ⟨_,hb,rfl,rfl⟩:=hv
  obtain ⟨v',h1,h2⟩:=binO_sound (w:=w) (xo:=x) (yo:=y) hb (hr x (by simp [hop,Op.operands])) (hr y (by simp [hop,Op.operands]))
  exact plain_upon (by simp [execOp,hop]) h1 (same h2 rfl)
 | unOp op t x =>
  simp only [hop,aop,Option.map_eq_some_iff,Prod.mk.injEq] at hv
  obtain ⟨_,hb,rfl,rfl⟩:=hv
  obtain ⟨v',h1,h2⟩:=un_sound (P:=E.P) (w:=w) hb (hr x (by simp [hop,Op.operands]))
  exact plain_upon (by simp [execOp,hop]) h1 (same h2 rfl)
 | convert s t x =>
  simp only [hop,aop,Option.map_eq_some_iff,Prod.mk.injEq] at hv
  obtain ⟨_,hb,rfl,rfl⟩:=hv
  obtain ⟨v',h1,h2⟩:=convertH_sound hs hb (hr x (by simp [hop,Op.operands]))
  exact plain_upon (by simp [execOp,hop]) h1 (same h2 rfl)
 | makeFunc fn fst cap =>
  cases fn with
  | func f =>
   simp only [hop,aop,Option.some.injEq,Prod.mk.injEq] at hv
   obtain ⟨rfl,rfl⟩:=hv
   have rel:∀ (l:Array Operand),(∀ x∈l,VRel M (ρA x) (a.eval x))→∀ (i:Nat) u u',(l.map ρA)[i]?=some u→(l.map a.eval)[i]?=some u'→VRel M u u':=by
    intro l hl i u u' hu hu'
    simp only [Array.getElem?_map,Option.map_eq_some_iff] at hu hu'
    obtain ⟨x,hx,rfl⟩:=hu
    obtain ⟨x',hx',rfl⟩:=hu'
    rw [hx] at hx';cases hx'
    exact hl x (Array.mem_of_getElem? hx)
   refine plain_upon (s:=Instr.makeFunc (.func f) (fst.map a.eval) (cap.map a.eval)) (by simp [execOp,hop]) (by simp [Instr.makeFunc]) (same (.func _ _ _ _ _ (by simp) (by simp) (rel fst fun x hx=>hr x (by simp [hop,Op.operands,hx])) (rel cap fun x hx=>hr x (by simp [hop,Op.operands,hx]))) rfl)
  | _=>simp [hop,aop] at hv
 | makeSlice t l c =>
  simp only [hop,aop] at hv
  obtain ⟨v',w',h1,h2⟩:=makeSlice_sound hs (lo:=loOf E strict o.op lo h) (by unfold loOf;split <;> omega) hv (hr l (by simp [hop,Op.operands])) (hr c (by simp [hop,Op.operands]))
  exact plain_upon (by simp [execOp,hop]) h1 (hn _ _ h2)
 | makeMap t r =>
  simp only [hop,aop] at hv
  obtain ⟨v',w',h1,h2⟩:=makeMap_sound (t:=t) hs (lo:=loOf E strict o.op lo h) (by unfold loOf;split <;> omega) hv (orel_map fun y hy=>hr y (by simp [hop,Op.operands,hy]))
  exact plain_upon (by simp [execOp,hop]) h1 (hn _ _ h2)
 | lookup t x k ok =>
  simp only [hop,aop,Option.map_eq_some_iff,Prod.mk.injEq] at hv
  obtain ⟨_,hb,rfl,rfl⟩:=hv
  obtain ⟨v',h1,h2⟩:=lookup_sound hs hb (hr x (by simp [hop,Op.operands])) (hr k (by simp [hop,Op.operands]))
  exact plain_upon (by simp [execOp,hop]) h1 (same h2 rfl)
 | mapUpdate t m k x =>
  simp only [hop,aop] at hv
  split at hv
  ·cases hv
  rename_i hst
  simp only [Option.map_eq_some_iff,Prod.mk.injEq] at hv
  obtain ⟨_,hb,rfl,rfl⟩:=hv
  obtain ⟨w',h1,h2,h3⟩:=mapPut_sound hs hb (hr m (by simp [hop,Op.operands])) (hr k (by simp [hop,Op.operands])) (hr x (by simp [hop,Op.operands]))
  unfold Oper.wp
  simp [execOp,hop,h1,Oper.upon]
  refine hn _ _ ⟨M,.top _,h2,?_⟩
  have e:loOf E strict (.mapUpdate t m k x) lo h=lo:=by simp at hst;simp [loOf,clsOf,hst]
  rw [hop,e];exact h3
 | insert t m k x =>
  simp only [hop,aop] at hv
  split at hv
  ·cases hv
  rename_i hst
  simp only [Option.map_eq_some_iff,Prod.mk.injEq] at hv
  obtain ⟨_,hb,rfl,rfl⟩:=hv
  obtain ⟨w',h1,h2,h3⟩:=mapPut_sound hs hb (hr m (by simp [hop,Op.operands])) (hr k (by simp [hop,Op.operands])) (hr x (by simp [hop,Op.operands]))
  unfold Oper.wp
  simp [execOp,hop,h1,Oper.upon]
  refine hn _ _ ⟨M,.top _,h2,?_⟩
  have e:loOf E strict (.insert t m k x) lo h=lo:=by simp at hst;simp [loOf,clsOf,hst]
  rw [hop,e];exact h3
 | mapEntry t m k =>
  simp only [hop,aop] at hv
  split at hv
  ·cases hv
  rename_i hst
  obtain ⟨v',w',h1,h2⟩:=mapEntry_sound hs hv (hr m (by simp [hop,Op.operands])) (hr k (by simp [hop,Op.operands]))
  have e:loOf E strict (.mapEntry t m k) lo h=lo:=by simp at hst;simp [loOf,clsOf,hst]
  exact plain_upon (by simp [execOp,hop]) h1 (hn _ _ (by rw [hop,e];exact h2))
 | entryStore t m s x =>
  simp only [hop,aop] at hv
  split at hv
  ·cases hv
  rename_i hst
  simp only [Option.map_eq_some_iff,Prod.mk.injEq] at hv
  obtain ⟨_,hb,rfl,rfl⟩:=hv
  obtain ⟨w',h1,h2,h3⟩:=entryStore_sound (t:=t) hs hb (hr m (by simp [hop,Op.operands])) (hr s (by simp [hop,Op.operands])) (hr x (by simp [hop,Op.operands]))
  unfold Oper.wp
  simp [execOp,hop,h1,Oper.upon]
  refine hn _ _ ⟨M,.top _,h2,?_⟩
  have e:loOf E strict (.entryStore t m s x) lo h=lo:=by simp at hst;simp [loOf,clsOf,hst]
  rw [hop,e];exact h3
 | slice t x l u m =>
  simp only [hop,aop] at hv
  split at hv
  ·cases hv
  simp only [Option.map_eq_some_iff,Prod.mk.injEq] at hv
  obtain ⟨_,hb,rfl,rfl⟩:=hv
  obtain ⟨v',h1,h2⟩:=slice_sound hs hb (hr x (by simp [hop,Op.operands])) (orel_map fun y hy=>hr y (by simp [hop,Op.operands,hy])) (orel_map fun y hy=>hr y (by simp [hop,Op.operands,hy])) (orel_map fun y hy=>hr y (by simp [hop,Op.operands,hy]))
  exact plain_upon (by simp [execOp,hop]) h1 (same h2 rfl)
 | fieldAddr t x f =>
  simp only [hop,aop,Option.map_eq_some_iff,Prod.mk.injEq] at hv
  obtain ⟨_,hb,rfl,rfl⟩:=hv
  obtain ⟨v',h1,h2⟩:=fieldAddr_sound (w:=w) hb (hr x (by simp [hop,Op.operands]))
  exact plain_upon (by simp [execOp,hop]) h1 (same h2 rfl)
 | field t x f =>
  simp only [hop,aop,Option.map_eq_some_iff,Prod.mk.injEq] at hv
  obtain ⟨_,hb,rfl,rfl⟩:=hv
  obtain ⟨v',h1,h2⟩:=field_sound (w:=w) hb (hr x (by simp [hop,Op.operands]))
  exact plain_upon (by simp [execOp,hop]) h1 (same h2 rfl)
 | indexAddr t x i =>
  simp only [hop,aop,Option.map_eq_some_iff,Prod.mk.injEq] at hv
  obtain ⟨_,hb,rfl,rfl⟩:=hv
  obtain ⟨v',h1,h2⟩:=indexAddr_sound (w:=w) hb (hr x (by simp [hop,Op.operands])) (hr i (by simp [hop,Op.operands]))
  exact plain_upon (by simp [execOp,hop]) h1 (same h2 rfl)
 | index t x i =>
  simp only [hop,aop,Option.map_eq_some_iff,Prod.mk.injEq] at hv
  obtain ⟨_,hb,rfl,rfl⟩:=hv
  obtain ⟨v',h1,h2⟩:=index_sound (w:=w) hb (hr x (by simp [hop,Op.operands])) (hr i (by simp [hop,Op.operands]))
  exact plain_upon (by simp [execOp,hop]) h1 (same h2 rfl)
 | extract x i =>
  simp only [hop,aop] at hv
  have hx:=hr x (by simp [hop,Op.operands])
  split at hv
  ·rename_i vs hvs
   simp only [Option.map_eq_some_iff,Prod.mk.injEq] at hv
   obtain ⟨_,hb,rfl,rfl⟩:=hv
   rw [hvs] at hx
   obtain ⟨v',h1,h2⟩:=extract_sound (P:=E.P) (w:=w) (x:=.tuple vs) hb hx
   exact plain_upon (by simp [execOp,hop]) h1 (same h2 rfl)
  ·cases hv
 | call c =>
  simp only [hop,aop] at hv
  have hargs:VRels M (c.args.toList.map ρA) (c.args.toList.map a.eval):=vrels_map fun x hx=>hr x (by
   simp only [hop,Op.operands,Call.operands]
   exact Array.mem_append.2 (.inr (Array.mem_toList_iff.1 hx)))
  split at hv
  ·-- a function value
   rename_i f hcal
   unfold aCall at hv
   split at hv
   case h_2=>cases hv
   rename_i g first captured hf
   have hfr:=hr f (by simp [hop,Op.operands,Call.operands,hcal])
   rw [hf] at hfr
   obtain ⟨first',captured',hfe,hs1,hs2,hr1,hr2⟩:=hfr.funcSome
   have hall:VRels M (first.toList++c.args.toList.map ρA++captured.toList) (first'++c.args.map a.eval++captured').toList:=by
    have e:(first'++c.args.map a.eval++captured').toList=first'.toList++c.args.toList.map a.eval++captured'.toList:=by simp
    rw [e]
    exact (VRels.append ⟨by simp [hs1],fun i u u' hu hu'=>hr1 i u u' (by simpa using hu) (by simpa using hu')⟩ hargs).append ⟨by simp [hs2],fun i u u' hu hu'=>hr2 i u u' (by simpa using hu) (by simpa using hu')⟩
   have enter:∀ fn,E.P.funcs[g]?=some fn→fn.body.isSome=true→(execOp a.eval o).run E.P w=.ok (.enter g (first'++c.args.map a.eval++captured')) w:=by
    intro fn hfn hb
    have h1 : fn.name ≠ "runtime.NumGoroutine" := by simpa using hP g fn hfn hb
    have h2:fn.body≠none:=by intro e;simp [e] at hb
    simp [execOp,hop,resolve,hcal,hfe,Deferred.ofValue,invoke,callFunc,run_program,hfn,h1,h2]
   have use:∀ {lo1:Nat} {r:Value × Heap} {fn:Func},E.P.funcs[g]?=some fn→fn.body.isSome=true →
     Calls E.P g (first'++c.args.map a.eval++captured') w (fun e w'=>∃ v',e=.returned v'∧Out E B lo1 M h w r.1 r.2 v' w') →
     (∀ v' w',Out E B lo1 M h w r.1 r.2 v' w'→next (a.put o.dst v') w')→o.wp E.P a w next Q:=by
    intro lo1 r fn hfn hb hcalls hk
    unfold Oper.wp
    rw [enter fn hfn hb,Oper.upon_enter]
    refine hcalls.mono ?_
    rintro e w' ⟨v',rfl,ho⟩
    exact hk _ _ ho
   have defd:∀ {targs:List Value} {r:Value},pureCall E.P C g targs=some r→∃ fn,E.P.funcs[g]?=some fn∧fn.body.isSome=true:=by
    intro targs r hc
    unfold pureCall at hc
    simp only [Option.bind_eq_some_iff] at hc
    obtain ⟨r0,hc,_⟩:=hc
    exact hC.dfd _ _ _ _ _ hc
   unfold retCall at hv
   split at hv
   ·rename_i hm
    simp only [Option.bind_eq_some_iff] at hv
    obtain ⟨targs,ht,r,hc,hv⟩:=hv
    split at hv
    case isFalse=>cases hv
    rename_i hsc
    simp only [Option.some.injEq,Prod.mk.injEq] at hv
    obtain ⟨rfl,rfl⟩:=hv
    obtain ⟨fn,hfn,hb⟩:=defd hc
    exact use (r:=(r,h)) hfn hb (call0_sound hC hs hall ht hc hsc) fun v' w' ho=>hn _ _ ho
   ·rename_i hm
    split at hv
    case isFalse=>cases hv
    rename_i hset
    simp only [Option.map_eq_some_iff,Prod.mk.injEq] at hv
    obtain ⟨r,hc,rfl,rfl⟩:=hv
    obtain ⟨fn,hfn,hb⟩:=defd hc
    exact use (r:=(r,h)) hfn hb (call1_sound hC hs hall hset hc) fun v' w' ho=>hn _ _ ho
   ·rename_i hm
    split at hv
    ·cases hv
    rename_i hst
    obtain ⟨fn,hfn,hb⟩:=hC.dfd _ _ _ _ _ hv
    refine use (r:=(v,h')) hfn hb (hC.snd g _ h lo v h' hv hlo B M w _ hs hall) fun v' w' ho=>hn _ _ (ho.weaken ?_)
    have hcls:clsOf E (.call c)=.write:=by
     unfold clsOf
     simp only [hcal]
     cases f with
     | func f0 =>
      have e1:=hfun f0
      rw [hf] at e1
      cases e1
      simp only [hm]
     | _=>rfl
    simp at hst
    simp [loOf,hop,hcls,hst]
   ·rename_i hm
    split at hv
    ·cases hv
    rename_i hst
    simp only [Option.bind_eq_some_iff,Option.map_eq_some_iff,Prod.mk.injEq] at hv
    obtain ⟨q,hq,r,hc,e1,e2⟩:=hv
    subst e1;subst e2
    obtain ⟨M1,cs,k1,k2,k3,k4,k5,_⟩:=frz_all (freezeV_ok (E:=E) (B:=B) (lo:=lo) depth) w _ _ _ _ hq M _ hs hall
    rw [List.nil_append] at k1
    rw [k1] at hc
    obtain ⟨fn,hfn,hb⟩:=defd hc
    have hcls:clsOf E (.call c)=.write:=by
     unfold clsOf
     simp only [hcal]
     cases f with
     | func f0 =>
      have e1:=hfun f0
      rw [hf] at e1
      cases e1
      simp only [hm]
     | _=>rfl
    simp at hst
    refine use (r:=(r,q.2)) (lo1:=lo) hfn hb ((callT_sound hC k2 (lo:=lo) (by rw [k4,hall.1]) k5 hc).mono ?_) fun v' w' ho=>hn _ _ (ho.weaken ?_)
    ·rintro e w' ⟨v',rfl,M2,j1,j2,j3⟩
     exact ⟨v',rfl,M2,j1,j2,k3.trans j3⟩
    ·simp [loOf,hop,hcls,hst]
   ·simp only [Option.bind_eq_some_iff,Option.map_eq_some_iff,Prod.mk.injEq] at hv
    obtain ⟨r,hc,q,hq,e1,e2⟩:=hv
    subst e1;subst e2
    obtain ⟨fn,hfn,hb⟩:=hC.dfd _ _ _ _ _ hc
    refine use (r:=(q.1,trim h.length [q.1] q.2)) (lo1:=h.length) hfn hb ((hC.snd g _ h h.length r.1 r.2 hc (Nat.le_refl _) B M w _ hs hall).mono ?_) fun v' w' ho=>hn _ _ (ho.weaken ?_)
    ·rintro e w' ⟨v',rfl,M1,k1,k2,k3⟩
     obtain ⟨M2,j1,j2,j3⟩:=freezeV_ok (E:=E) (B:=B) (lo:=h.length) depth _ _ _ _ hq M1 w' _ k2 k1
     obtain ⟨M3,q1,q2,q3⟩:=trim_sound hs j1 (k3.trans j2) (Nat.le_refl _) [q.1]
     exact ⟨v',rfl,M3,q3 _ (by simp) _ j3.toV,q1,q2⟩
    ·unfold loOf;split <;> omega
   ·rename_i hm0 hm1 hm2 hm4 hm5
    split at hv
    ·cases hv
    rename_i hst
    simp only [Option.map_eq_some_iff,Prod.mk.injEq] at hv
    obtain ⟨r,hc,e1,e2⟩:=hv
    subst e1;subst e2
    obtain ⟨fn,hfn,hb⟩:=hC.dfd _ _ _ _ _ hc
    refine use (r:=r) hfn hb (hC.snd g _ h lo r.1 r.2 hc hlo B M w _ hs hall) fun v' w' ho=>hn _ _ ?_
    obtain ⟨M1,k1,k2,k3⟩:=ho
    obtain ⟨M2,q1,q2,q3⟩:=trim_sound hs k2 k3 hlo [r.1]
    refine Out.weaken (lo:=lo) ⟨M2,q3 _ (by simp) _ k1,q1,q2⟩ ?_
    have hcls:clsOf E (.call c)=.write:=by
     unfold clsOf
     simp only [hcal]
     cases f with
     | func f0 =>
      have e1:=hfun f0
      rw [hf] at e1
      cases e1
      simp only
     | _=>rfl
    simp at hst
    simp [loOf,hop,hcls,hst]
  ·-- a builtin
   rename_i b hcal
   obtain ⟨cs,hex⟩:∃ cs,execOp a.eval o=builtin b c.argTypes o.type cs (c.args.map a.eval):=⟨_,by simp [execOp,hop,resolve,hcal,invoke];rfl⟩
   have hcargs:(c.args.map a.eval)=(c.args.toList.map a.eval).toArray:=by apply Array.ext';simp
   rw [hcargs] at hex
   have hmul:∀ {x x':Value} {l:List Value},VRels M [x] l→l=[x']→VRel M x x':=fun h e=>h.2 0 _ _ rfl (by rw [e];rfl)
   have one1:∀ {x:Value},c.args.toList.map ρA=[x]→∃ x',c.args.toList.map a.eval=[x']∧VRel M x x':=by
    intro x hx
    rw [hx] at hargs
    obtain ⟨hl,hr⟩:=hargs
    match hm:c.args.toList.map a.eval,hl with
    | [x'],_=>exact ⟨x',rfl,hr 0 x x' rfl (by rw [hm];rfl)⟩
   have one2:∀ {x y:Value},c.args.toList.map ρA=[x,y]→∃ x' y',c.args.toList.map a.eval=[x',y']∧VRel M x x'∧VRel M y y':=by
    intro x y hx
    rw [hx] at hargs
    obtain ⟨hl,hr⟩:=hargs
    match hm:c.args.toList.map a.eval,hl with
    | [x',y'],_=>exact ⟨x',y',rfl,hr 0 x x' rfl (by rw [hm];rfl),hr 1 y y' rfl (by rw [hm];rfl)⟩
   split at hv
   ·rename_i x hx
    simp only [Option.map_eq_some_iff,Prod.mk.injEq] at hv
    obtain ⟨_,hb,rfl,rfl⟩:=hv
    obtain ⟨x',e,hxr⟩:=one1 hx
    obtain ⟨v',h1,h2⟩:=len_sound hs hb hxr o.type
    rw [e] at hex
    exact plain_upon (by rw [hex];rfl) h1 (same h2 rfl)
   ·rename_i x hx
    simp only [Option.map_eq_some_iff,Prod.mk.injEq] at hv
    obtain ⟨_,hb,rfl,rfl⟩:=hv
    obtain ⟨x',e,hxr⟩:=one1 hx
    obtain ⟨v',h1,h2⟩:=cap_sound (E:=E) (w:=w) hb hxr o.type
    rw [e] at hex
    exact plain_upon (by rw [hex];rfl) h1 (same h2 rfl)
   ·rename_i d x hx
    obtain ⟨d',x',e,hdr,hxr⟩:=one2 hx
    obtain ⟨v',w',h1,h2⟩:=append2_sound hs hlo hv hdr hxr o.type
    rw [e] at hex
    refine plain_upon (by rw [hex];rfl) h1 (hn _ _ ?_)
    have e2:loOf E strict o.op lo h=if strict then h.length else lo:=by
     have hcls:clsOf E (.call c)=.write:=by unfold clsOf;simp only [hcal]
     simp [loOf,hop,hcls]
    rw [e2];exact h2
   ·rename_i d x hx
    split at hv
    ·cases hv
    rename_i hst
    obtain ⟨d',x',e,hdr,hxr⟩:=one2 hx
    obtain ⟨v',w',h1,h2⟩:=copy_sound hs hv hdr hxr o.type
    rw [e] at hex
    refine plain_upon (by rw [hex];rfl) h1 (hn _ _ (h2.weaken ?_))
    have hcls:clsOf E (.call c)=.write:=by unfold clsOf;simp only [hcal]
    simp at hst
    simp [loOf,hop,hcls,hst]
   ·rename_i x hx
    split at hv
    ·cases hv
    rename_i hst
    obtain ⟨x',e,hxr⟩:=one1 hx
    obtain ⟨v',w',h1,h2⟩:=clear_sound hs hv hxr o.type
    rw [e] at hex
    refine plain_upon (by rw [hex];rfl) h1 (hn _ _ (h2.weaken ?_))
    have hcls:clsOf E (.call c)=.write:=by unfold clsOf;simp only [hcal]
    simp at hst
    simp [loOf,hop,hcls,hst]
   ·simp only [Option.map_eq_some_iff,Prod.mk.injEq] at hv
    obtain ⟨_,hb,rfl,rfl⟩:=hv
    obtain ⟨h1,h2⟩:=minMax_sound (P:=E.P) (w:=w) hb hargs
    exact plain_upon (by rw [hex];rfl) (by simp only [Bool.false_eq_true,if_false] at h1;exact h1) (same (.atom _ h2) rfl)
   ·simp only [Option.map_eq_some_iff,Prod.mk.injEq] at hv
    obtain ⟨_,hb,rfl,rfl⟩:=hv
    obtain ⟨h1,h2⟩:=minMax_sound (P:=E.P) (w:=w) hb hargs
    exact plain_upon (by rw [hex];rfl) (by simp only [if_true] at h1;exact h1) (same (.atom _ h2) rfl)
   ·cases hv
  ·cases hv
 | _=>simp [hop,aop] at hv
end
end Go.Proofs.YtplebjehcgcdeaaGreatDoor.Bm
