/-
 The machine without a bound on the depth of calls and the number of rounds: the limit, and its equation. Conditions: none.
-/
import Derived.Test.YtplebjehcgcdeaaGreatDoorQU11
import Derived.LoopN
namespace Go.Proofs.YtplebjehcgcdeaaGreatDoor.Bm
open Go Go.RowKit
theorem count_set {l:List Bool}:∀ {i:Nat},l[i]?=some false→(l.set i true).count false+1=l.count false:=by
 induction l with
 | nil=>intro i h;simp at h
 | cons b l ih =>
  intro i h
  cases i with
  | zero=>simp at h;subst h;simp
  | succ i =>
   have:=ih (i:=i) (by simpa using h)
   simp only [List.set_cons_succ,List.count_cons]
   omega
section
variable {E:Env} {sl:Bool} {B:Nat} {C:Callee} {lo:Nat} {cm:Option (Nat × Nat)} {ops:Array Oper}
theorem draw_any (hP:GoodP E.P) (hC:CSound E C) (hK:KeepC C) {S:Nat→Slots} {H:Nat→Heap} {V:Nat→Value} {G:Nat→Bool} (T:∀ j o,ops[j]?=some o→Tr E sl C lo cm ops S H V G j o) (hok:okDraw ops=true) (hlo:lo≤(H 0).length) (hcm:∀ c,cm=some c→c.1<c.2∧c.2≤(H 0).length)
  {M₀:Mem} (hglob:∀ g v,E.glob g=some v→TRel M₀.phi (cptr v) (.pointer (some ⟨g,0,none⟩))) {w₀:World} {Q:Exit→Act→World→Prop}
  (hQ:∀ listed M a w,Inv E sl B lo ops S H V G M₀ w₀ listed M a w→(∀ k,k<ops.size→Ex ops listed k)→Q .normal a w) :
  ∀ (fuel:Nat) (listed:Array Bool) (M:Mem) (a:Act) (w:World),listed.toList.count false≤fuel→(∀ b x v,M₀.phi b x=some v→M.phi b x=some v)→Inv E sl B lo ops S H V G M₀ w₀ listed M a w→wpAny E.P .any ops Q fuel listed a w:=by
 have done:∀ listed M a w,Inv E sl B lo ops S H V G M₀ w₀ listed M a w→Region.ready .any ops listed=[]→Q .normal a w:=by
  intro listed M a w I hr
  refine hQ listed M a w I fun k=>?_
  induction k using Nat.strongRecOn with
  | _ k ih =>
   intro hk
   refine ⟨hk,?_⟩
   have hls:=I.lsize
   cases hl:listed.getD k false with
   | true=>rfl
   | false =>
    have hmem:k∈Region.ready .any ops listed:=by
     refine mem_ready.2 ⟨?_,ops[k],by simp [hk],fun e he hb=>?_⟩
     ·have hk':k<listed.size:=by omega
      simp [hk'] at hl ⊢; exact hl
     ·have hlt:=okDraw_edge hok (q:=k) (by simp [hk]) he hb
      exact (ih e.on hlt (by omega)).2
    rw [hr] at hmem;cases hmem
 intro fuel
 induction fuel with
 | zero =>
  intro listed M a w hc _ I
  have hr:Region.ready .any ops listed=[]:=by
   cases hr:Region.ready .any ops listed with
   | nil=>rfl
   | cons k r =>
    have hk:=(mem_ready.1 (show k∈Region.ready .any ops listed by rw [hr];simp)).1
    have:listed.toList.count false=0:=by omega
    rw [List.count_eq_zero] at this
    by_cases hlt:k<listed.size
    ·simp [hlt] at hk
     exact absurd (by rw [← hk];simp) this
    ·simp [Array.getElem?_eq_none (Nat.le_of_not_lt hlt)] at hk
  exact ⟨hr,done listed M a w I hr⟩
 | succ fuel ih =>
  intro listed M a w hc hphi I
  refine ⟨done listed M a w I,fun i hi=>?_⟩
  obtain ⟨hu,o,ho,hall⟩:=mem_ready.1 hi
  refine I.step hcm hP hC hK T hok hlo hglob hphi ho hu hall fun M' a' w' I' hphi'=>ih _ M' a' w' ?_ hphi' I'
  have hlt:i<listed.size:=by
   have:=(Array.getElem?_eq_some_iff.1 ho).1;have:=I.lsize;omega
  have h1:listed.toList[i]?=some false:=by simp [hlt] at hu ⊢; exact hu
  have:=count_set h1
  simp only [Array.toList_setIfInBounds]
  omega
theorem draw_core (hm:E.P.follows .mixedOrders=true) (hP:GoodP E.P) (hC:CSound E C) (hK:KeepC C) (hok:okDraw ops=true) {id:Nat} {Q:Exit→Act→World→Prop} {σ':Slots} {h':Heap} {a:Act} {M:Mem} {w:World}
  {S:Nat→Slots} {H:Nat→Heap} {V:Nat→Value} {G:Nat→Bool} (T:∀ j o,ops[j]?=some o→Tr E sl C lo cm ops S H V G j o) (hSn:S ops.size=σ') (hHn:H ops.size=h') (hcm:∀ c,cm=some c→c.1<c.2∧c.2≤(H 0).length)
  (hlo:lo≤(H 0).length) (hσ:SRel M (S 0) a.tmps) (hd:a.defers=[]) (hs:HSim E B M (H 0) w)
  (hQ:∀ a' w',Aft E B lo M (H 0) w σ' h' a' w'→Q .normal a' w'):(Code.region id ops true).wp E.P Q a w:=by
 refine wp_region_any hm ?_
 have noEx:∀ k,¬ Ex ops (Array.replicate ops.size false) k:=by
  rintro k ⟨h1,h2⟩
  simp [h1] at h2
 refine draw_any (B:=B) (M₀:=M) (w₀:=w) hP hC hK T hok hlo hcm (fun g v hg=>(hs.glob g v hg).treeSome) ?_ ops.size (Array.replicate ops.size false) M a _ (by simp) (fun _ _ _ h=>h) ?_
 ·intro listed M' a' w' I hall
  obtain ⟨v1,v2⟩:=I.view ops.size (Nat.le_refl _) (fun e he _=>hall e he) fun e he _=>he.1
  refine hQ a' w' ⟨I.defers,M'.cut (H ops.size).length,?_,by rw [← hHn];exact v1,by rw [← hHn];exact v2⟩
  rw [← hSn]
  obtain ⟨s1,s2⟩:=slotval T ops.size (Nat.le_refl _)
  refine ⟨s1.trans I.tsize,fun t v v' hv hv'=>?_⟩
  rcases s2 t v hv with ⟨k,h1,h2,h3,rfl⟩ | ⟨h1,h2⟩
  ·exact (I.slotW t k v' hv' (hall k h1) h2 fun j hj hjd=>h3 j hj.1 hjd).mono (cut_le (len_mono T hK hlo (by omega) (Nat.le_refl _)))
  ·exact (I.slot0 t v v' hv' h2 fun k hk=>h1 k hk.1).mono (cut_le (len_mono T hK hlo (by omega) (Nat.le_refl _)))
 ·refine ⟨by simp,fun q o hq hlq=>?_,hd,hσ.1,fun t k v' _ hk=>absurd hk (noEx k),fun t v v' hv' hv _=>?_,fun i hi h1 h2=>?_,fun o l hl=>.inl (hs.lt o l hl),(hs.of_heap (w':={ w with drawn:=w.drawn+1 }) rfl).phi⟩
  ·exact absurd ⟨(Array.getElem?_eq_some_iff.1 hq).1,hlq⟩ (noEx q)
  ·rw [cut_eq hs.lt];exact hσ.2 t v v' hv hv'
  ·have kr:=keep_range T hK hlo (i:=0) (j:=i) (Nat.zero_le _) hi fun k _ h hq=>noEx k (h1 k h hq)
   obtain ⟨ex,hex⟩:=kr.ext
   rw [cut_eq fun o l hl=>Nat.lt_of_lt_of_le (hs.lt o l hl) kr.1,hex]
   have hs':=hs.of_heap (w':={ w with drawn:=w.drawn+1 }) rfl
   refine ⟨hs'.pad,Evo.pad ?_ hs.lt hlo⟩
   exact ⟨rfl,rfl,rfl,fun _=>Nat.le_succ _,Nat.le_refl _,fun _ _ _=>rfl,Nat.le_refl _,fun _ _=>rfl,fun _ _ ha=>ha,fun _ _=>rfl,.refl M,fun _ _ h=>h,fun o l ho hl ha hr=>.inr ⟨o,l,ho,hl,ha,hr,rfl⟩,fun _ _ _ h=>.inl h⟩
theorem draw_sound (hm:E.P.follows .mixedOrders=true) (hP:GoodP E.P) (hC:CSound E C) (hK:KeepC C) (hok:okDraw ops=true) {id:Nat} {Q:Exit→Act→World→Prop} {σ σ':Slots} {h h':Heap} {a:Act} {M:Mem} {w:World}
  (hr:runOps E C lo ops (withStrict E sl true ops) σ h=some (σ',h')) (hlo:lo≤h.length) (hσ:SRel M σ a.tmps) (hd:a.defers=[]) (hs:HSim E B M h w)
  (hQ:∀ a' w',Aft E B lo M h w σ' h' a' w'→Q .normal a' w'):(Code.region id ops true).wp E.P Q a w:=by
 have hl:ops.toList.zipIdx.length=ops.size:=by simp
 have hws:withStrict E sl true ops=ops.toList.zipIdx.map fun x=>(x.1,strictAt E sl ops (Region.before ops) x.2 x.1):=rfl
 rw [hws] at hr
 obtain ⟨S,H,V,G,rfl,rfl,hSn,hHn,hT⟩:=trace_of (E:=E) (C:=C) (lo:=lo) (ops:=ops) ops.toList.zipIdx 0 σ σ' h h' (fun j=>by
  simp only [Nat.zero_add,List.getElem?_zipIdx,Array.getElem?_toList]) hr
 have T:∀ j o,ops[j]?=some o→Tr E sl C lo none ops S H V G j o:=fun j o=>hT j o (Nat.zero_le _)
 rw [hl,Nat.zero_add] at hSn hHn
 exact draw_core (cm:=none) hm hP hC hK hok T hSn hHn (fun c hc=>by cases hc) hlo hσ hd hs hQ
theorem drawQ_sound (hm:E.P.follows .mixedOrders=true) (hP:GoodP E.P) (hC:CSound E C) (hK:KeepC C) (hok:okDraw ops=true) {id:Nat} {Q:Exit→Act→World→Prop} {σ σ':Slots} {h h':Heap} {a:Act} {M:Mem} {w:World}
  {c0:Nat × Nat} (hc0:c0.1<c0.2∧c0.2≤h.length) (hr:runQ E C lo c0 ops (withRace E sl ops) σ h=some (σ',h')) (hlo:lo≤h.length) (hσ:SRel M σ a.tmps) (hd:a.defers=[]) (hs:HSim E B M h w)
  (hQ:∀ a' w',Aft E B lo M h w σ' h' a' w'→Q .normal a' w'):(Code.region id ops true).wp E.P Q a w:=by
 have hl:ops.toList.zipIdx.length=ops.size:=by simp
 have hws:withRace E sl ops=ops.toList.zipIdx.map fun x=>((x.1,strictAt E sl ops (Region.before ops) x.2 x.1),raceAt E sl ops (Region.before ops) x.2 x.1):=rfl
 rw [hws] at hr
 obtain ⟨S,H,V,G,rfl,rfl,hSn,hHn,hT⟩:=trace_ofQ (E:=E) (C:=C) (lo:=lo) (ops:=ops) ops.toList.zipIdx 0 σ σ' h h' (fun j=>by
  simp only [Nat.zero_add,List.getElem?_zipIdx,Array.getElem?_toList]) hr
 have T:∀ j o,ops[j]?=some o→Tr E sl C lo (some c0) ops S H V G j o:=fun j o=>hT j o (Nat.zero_le _)
 rw [hl,Nat.zero_add] at hSn hHn
 exact draw_core (cm:=some c0) hm hP hC hK hok T hSn hHn (fun c hc=>by cases hc;exact hc0) hlo hσ hd hs hQ
def okCode:Code→Bool
 | .region _ ops draw=>!draw || okDraw ops
 | .seq a b=>okCode a && okCode b
 | .cond _ a b=>okCode a && okCode b
 | .block _ a=>okCode a
 | .loop a=>okCode a
 | .scope a=>okCode a
 | _=>true
def BSound (E:Env) (B lo:Nat) (c:Code) (b:Body):Prop :=
 ∀ σ h e σ' h',b σ h=some (e,σ',h')→lo≤h.length→∀ M w (a:Act),SRel M σ a.tmps→a.defers=[]→HSim E B M h w →
  ∀ Q:Exit→Act→World→Prop,(∀ a' w',Aft E B lo M h w σ' h' a' w'→Q e a' w')→c.wp E.P Q a w
theorem Aft.trans {M M₁:Mem} {h h₁ h₂:Heap} {w w₁:World} {σ₂:Slots} {a₂:Act} {w₂:World} (ev:Evo E lo M h w M₁ h₁ w₁) (k:Aft E B lo M₁ h₁ w₁ σ₂ h₂ a₂ w₂):Aft E B lo M h w σ₂ h₂ a₂ w₂ :=
 let ⟨h1,M₂,h2,h3,h4⟩:=k
 ⟨h1,M₂,h2,h3,ev.trans h4⟩
theorem loop_sound {c:Code} {b:Body} (hb:BSound E B lo c b) (k:List Nat × List Nat) (m:Nat):BSound E B lo (.loop c) (evLoop m k b):=by
 intro σ h e σ' h' hr hlo M w a hσ hd hs Q hQ
 refine wp_loop_rounds m ?_
 induction m generalizing σ h M w a with
 | zero=>simp [evLoop] at hr
 | succ m ih =>
  rw [rounds_succ]
  simp only [evLoop,Option.bind_eq_some_iff] at hr
  obtain ⟨⟨e1,σ1,h1⟩,hbody,hr⟩:=hr
  refine hb _ _ _ _ _ hbody hlo M w a (hσ.forget _) hd hs _ fun a' w' haft=>?_
  obtain ⟨hd',M₁,q1,q2,q3⟩:=haft
  have fin:∀ l,∃ M₂,SRel M₂ (forget l σ1) a'.tmps∧HSim E B M₂ (trim h.length (forget l σ1) h1) w'∧Evo E lo M h w M₂ (trim h.length (forget l σ1) h1) w':=by
   intro l
   obtain ⟨M₂,r1,r2,r3⟩:=trim_sound hs q2 q3 hlo (forget l σ1)
   have q1':=q1.forget l
   exact ⟨M₂,⟨q1'.1,fun i v v' hv hv'=>r3 v (List.mem_of_getElem? hv) v' (q1'.2 i v v' hv hv')⟩,r1,r2⟩
  cases e1 <;> simp only [Option.some.injEq,Prod.mk.injEq] at hr
  case normal =>
   obtain ⟨M₂,r1,r2,r3⟩:=fin k.1
   exact ih _ _ hr (Nat.le_trans hlo r3.len) M₂ w' a' r1 hd' r2 fun a'' w'' haft=>hQ a'' w'' (haft.trans r3)
  all_goals
   obtain ⟨rfl,rfl,rfl⟩:=hr
   obtain ⟨M₂,r1,r2,r3⟩:=fin k.2
   exact hQ a' w' ⟨hd',M₂,r1,r2,r3⟩
theorem evG_sound (hm:E.P.follows .mixedOrders=true) (hP:GoodP E.P) (hC:CSound E C) (hK:KeepC C) {f:FuncId} {Lp:List Nat × List Nat→Body→Body}
  (hL:∀ c b k,BSound E B lo c b→BSound E B lo (.loop c) (Lp k b)) (_hLK:∀ k b,KeepB lo b→KeepB lo (Lp k b)):∀ c:Code,okCode c=true→BSound E B lo c (evG E f C Lp lo c):=by
 intro c
 induction c with
 | skip =>
  intro _ σ h e σ' h' hr hlo M w a hσ hd hs Q hQ
  simp only [evG,Option.some.injEq,Prod.mk.injEq] at hr
  obtain ⟨rfl,rfl,rfl⟩:=hr
  exact wp_skip (hQ a w ⟨hd,M,hσ,hs,Evo.refl hs lo⟩)
 | label l =>
  intro _ σ h e σ' h' hr hlo M w a hσ hd hs Q hQ
  simp only [evG,Option.some.injEq,Prod.mk.injEq] at hr
  obtain ⟨rfl,rfl,rfl⟩:=hr
  exact wp_label (hQ a w ⟨hd,M,hσ,hs,Evo.refl hs lo⟩)
 | region id ops draw =>
  intro hok σ h e σ' h' hr hlo M w a hσ hd hs Q hQ
  simp only [evG,Option.bind_eq_some_iff,Option.map_eq_some_iff,Prod.mk.injEq] at hr
  obtain ⟨⟨σ0,h0⟩,hp,⟨σ1,h1⟩,hr,rfl,rfl,rfl⟩:=hr
  obtain ⟨M0,p1,p2,p3⟩:=prepare_sound (E:=E) _ _ _ _ _ M hp hlo hσ hs
  have hQ':∀ a' w',Aft E B lo M0 h0 w σ1 h1 a' w'→Q .normal a' w':=fun a' w' haft=>hQ a' w' (haft.trans p3)
  have hl0:lo≤h0.length:=Nat.le_trans hlo p3.len
  have hQ'':∀ a' w',Aft E B (lowF (fixS (E.prep f id)) σ0 lo h0) M0 h0 w σ1 h1 a' w'→Q .normal a' w':=fun a' w' haft =>
   hQ' a' w' (by obtain ⟨k1,M',k2,k3,k4⟩:=haft;exact ⟨k1,M',k2,k3,k4.weaken lowF_ge⟩)
  cases draw with
  | false =>
   have hr:runOps E C (lowF (fixS (E.prep f id)) σ0 lo h0) ops (withStrict E (stillIn (E.prep f id)) false ops) σ0 h0=some (σ1,h1):=by
    unfold runReg at hr
    cases hq:calmS (E.prep f id) <;> (rw [hq] at hr;exact hr)
   exact region_sound hP hC hr (lowF_le hl0) p1 hd p2 hQ''
  | true =>
   unfold runReg at hr
   cases hq:calmS (E.prep f id) with
   | none =>
    rw [hq] at hr
    exact draw_sound hm hP hC hK (by simpa [okCode] using hok) hr (lowF_le hl0) p1 hd p2 hQ''
   | some s =>
    rw [hq] at hr
    obtain ⟨c0,hcb,hr⟩:=Option.bind_eq_some_iff.1 hr
    have hc0:c0.1<c0.2∧c0.2≤h0.length:=by
     unfold calmB at hcb
     split at hcb
     ·split at hcb
      ·cases hcb;rename_i hlt;exact ⟨hlt,Nat.le_refl _⟩
      ·cases hcb
     ·cases hcb
    exact drawQ_sound hm hP hC hK (by simpa [okCode] using hok) hc0 hr hl0 p1 hd p2 hQ'
 | seq x y ihx ihy =>
  intro hok σ h e σ' h' hr hlo M w a hσ hd hs Q hQ
  simp only [okCode,Bool.and_eq_true] at hok
  simp only [evG,Option.bind_eq_some_iff] at hr
  obtain ⟨⟨e1,σ1,h1⟩,hx,hr⟩:=hr
  refine wp_seq (ihx hok.1 _ _ _ _ _ hx hlo M w a hσ hd hs _ fun a' w' haft=>?_)
  obtain ⟨hd',M₁,q1,q2,q3⟩:=haft
  cases e1 <;> simp only [Option.some.injEq,Prod.mk.injEq] at hr
  case normal=>exact ihy hok.2 _ _ _ _ _ hr (Nat.le_trans hlo q3.len) M₁ w' a' q1 hd' q2 _ fun a'' w'' haft=>hQ a'' w'' (haft.trans q3)
  all_goals
   obtain ⟨rfl,rfl,rfl⟩:=hr
   exact hQ a' w' ⟨hd',M₁,q1,q2,q3⟩
 | cond c x y ihx ihy =>
  intro hok σ h e σ' h' hr hlo M w a hσ hd hs Q hQ
  simp only [okCode,Bool.and_eq_true] at hok
  have hc:=eval_rel (E:=E) hs.glob hσ c
  simp only [evG] at hr
  split at hr
  ·rename_i he
   rw [he] at hc
   exact wp_cond_true hc.bool (ihx hok.1 _ _ _ _ _ hr hlo M w a hσ hd hs Q hQ)
  ·rename_i he
   rw [he] at hc
   exact wp_cond_false hc.bool (ihy hok.2 _ _ _ _ _ hr hlo M w a hσ hd hs Q hQ)
  ·cases hr
 | block id x ihx =>
  intro hok σ h e σ' h' hr hlo M w a hσ hd hs Q hQ
  simp only [evG,Option.map_eq_some_iff] at hr
  obtain ⟨⟨e1,σ1,h1⟩,hx,hr⟩:=hr
  refine wp_block (ihx (by simpa [okCode] using hok) _ _ _ _ _ hx hlo M w a hσ hd hs _ fun a' w' haft=>?_)
  cases e1 <;> simp only at hr
  case exit id' =>
   simp only [Exit.inBlock]
   split at hr
   ·rename_i hid
    rw [if_pos hid]
    simp only [Prod.mk.injEq] at hr
    obtain ⟨rfl,rfl,rfl⟩:=hr
    exact hQ a' w' haft
   ·rename_i hid
    rw [if_neg hid]
    simp only [Prod.mk.injEq] at hr
    obtain ⟨rfl,rfl,rfl⟩:=hr
    exact hQ a' w' haft
  all_goals
   simp only [Prod.mk.injEq] at hr
   obtain ⟨rfl,rfl,rfl⟩:=hr
   exact hQ a' w' haft
 | loop x ihx =>
  intro hok
  exact hL x _ _ (ihx (by simpa [okCode] using hok))
 | scope x ihx =>
  intro hok σ h e σ' h' hr hlo M w a hσ hd hs Q hQ
  simp only [evG,Option.bind_eq_some_iff] at hr
  obtain ⟨⟨e1,σ1,h1⟩,hx,hr⟩:=hr
  refine wp_scope_straight (ihx (by simpa [okCode] using hok) _ _ _ _ _ hx hlo M w a hσ hd hs _ fun a' w' haft=>?_)
  cases e1 <;> simp only [Option.some.injEq,Prod.mk.injEq,reduceCtorEq] at hr
  all_goals
   obtain ⟨rfl,rfl,rfl⟩:=hr
   exact hQ a' w' haft
 | exit id =>
  intro _ σ h e σ' h' hr hlo M w a hσ hd hs Q hQ
  simp only [evG,Option.some.injEq,Prod.mk.injEq] at hr
  obtain ⟨rfl,rfl,rfl⟩:=hr
  exact wp_exit (hQ a w ⟨hd,M,hσ,hs,Evo.refl hs lo⟩)
 | ret =>
  intro _ σ h e σ' h' hr hlo M w a hσ hd hs Q hQ
  simp only [evG,Option.some.injEq,Prod.mk.injEq] at hr
  obtain ⟨rfl,rfl,rfl⟩:=hr
  exact wp_ret (hQ a w ⟨hd,M,hσ,hs,Evo.refl hs lo⟩)
 | _=>intro _ σ h e σ' h' hr;simp [evG] at hr
theorem rets_sound {σ:Slots} {M:Mem} {h:Heap} {w:World} {t:Array Value} (hσ:SRel M σ t) (hs:HSim E B M h w) {g:ResultVar→Sem Value} {ga:ResultVar→Option Value}
  (g1:∀ x,g (.tmp x)=pure (t.getD x undef)) (g2:∀ a ty,g (.cell a ty)=do loadVar ty (← asAddr (t.getD a undef))) (k1:∀ x,ga (.tmp x)=some (σ.getD x undef)) (k2:∀ a ty,ga (.cell a ty)=aLoad E.P h ty (σ.getD a undef)) :
  ∀ (rs:List ResultVar) (vs:List Value),rs.mapM ga=some vs→∃ vs',(rs.mapM g).run E.P w=.ok vs' w∧VRels M vs vs'
 | [],vs,h=>by simp at h;subst h;exact ⟨[],by simp,VRels.nil⟩
 | r :: rs,vs,hr=>by
  simp only [List.mapM_cons,bind,Option.bind_eq_some_iff,pure,Option.some.injEq] at hr
  obtain ⟨v,hv,vs1,hvs,rfl⟩:=hr
  obtain ⟨vs',h1,h2⟩:=rets_sound hσ hs g1 g2 k1 k2 rs vs1 hvs
  cases r with
  | tmp x =>
   rw [k1] at hv
   cases hv
   refine ⟨t.getD x undef :: vs',?_,VRels.cons (hσ.getD x) h2⟩
   simp only [List.mapM_cons,Sem.run_bind,g1,Sem.run_pure,Result.andThen_ok]
   rw [h1];rfl
  | cell a ty =>
   rw [k2] at hv
   obtain ⟨v',hv1,hv2⟩:=load_sound hs hv (hσ.getD a)
   refine ⟨v' :: vs',?_,VRels.cons hv2 h2⟩
   have hp:∃ p,t.getD a undef=.pointer (some p):=by
    have hd:=hσ.getD a
    generalize σ.getD a undef=x at hv hd
    unfold aLoad at hv
    split at hv
    ·obtain ⟨p',e,_⟩:=hd.ptrSome
     exact ⟨p',e⟩
    ·obtain ⟨p',_,e,_⟩:=hd.treeSome.cptrSome
     exact ⟨p',e⟩
    ·cases hv
   obtain ⟨p,hp⟩:=hp
   rw [hp] at hv1
   simp only [Instr.loadAt,Instr.sureAddr,Sem.run_bind,Sem.run_pure,Result.andThen_ok] at hv1
   simp only [List.mapM_cons,Sem.run_bind,g2,hp,asAddr,Sem.run_pure,Result.andThen_ok,hv1]
   rw [h1];rfl
theorem ret_sound {fn:Func} {σ:Slots} {M:Mem} {h:Heap} {w:World} {t:Array Value} {v:Value} (hr:retA E fn σ h=some v) (hσ:SRel M σ t) (hs:HSim E B M h w) :
  ∃ v',(results fn t).run E.P w=.ok v' w∧VRel M v v':=by
 unfold retA at hr
 simp only [Option.map_eq_some_iff] at hr
 obtain ⟨vs,hvs,hv⟩:=hr
 unfold results
 simp only [Sem.run_bind,Array.mapM_eq_mapM_toList,Sem.run_map]
 obtain ⟨vs',h1,h2⟩:=rets_sound (g:=fun r=>match r with
  | .tmp t_1=>pure (t.getD t_1 undef)
  | .cell a t_1=>do
   let __do_lift ← asAddr (t.getD a undef)
   loadVar t_1 __do_lift) hσ hs (fun _=>rfl) (fun _ _=>rfl) (fun _=>rfl) (fun _ _=>rfl) _ _ hvs
 have key:∀ {s:Sem (List Value)},s.run E.P w=.ok vs' w→∃ v',(((s.run E.P w).andThen fun a w'=>Result.ok a.toArray w').andThen fun a w'=>(pure (if h:a.size=1 then a[0] else Value.tuple a):Sem Value).run E.P w')=Result.ok v' w∧VRel M v v':=by
  intro s hs
  rw [hs]
  simp only [Result.andThen_ok,Sem.run_pure]
  refine ⟨_,rfl,?_⟩
  have hlen:=h2.1
  match vs,vs',hlen with
  | [],[],_=>simp at hv;subst hv;exact .top _
  | [u],[u'],_=>simp at hv ⊢; subst hv;exact h2.2 0 _ _ rfl rfl
  | u :: x :: r,u' :: x' :: r',hl =>
   simp at hv ⊢
   subst hv
   exact .tuple _ _ (by simpa using hl) fun i a b ha hb=>h2.2 i a b (by simpa using ha) (by simpa using hb)
 exact key h1
end
structure OkProg (P:Program):Prop where
 mixed:P.follows .mixedOrders=true
 good:GoodP P
 code:∀ (f:FuncId) fn c,P.funcs[f]?=some fn→fn.body=some c→okCode c=true
structure OrcSound (E:Env):Prop where
 dfd:∀ f g,E.orc f=some g→∀ args h lo r,g args h lo=some r→∃ fn,E.P.funcs[f]?=some fn∧fn.body.isSome=true
 snd:∀ f g,E.orc f=some g→∀ args h lo v h',g args h lo=some (v,h')→lo≤h.length→∀ B M w (args':Array Value),HSim E B M h w→VRels M args args'.toList →
  Calls E.P f args' w fun e w'=>∃ v',e=.returned v'∧Out E B lo M h w v h' v' w'
 keep:OrcKeep E
theorem evF_sound {E:Env} (hP:OkProg E.P) (hO:OrcSound E):∀ n,CSound E (evF E n)
 | 0=>⟨fun f args h lo r hr=>by simp [evF] at hr,fun f args h lo v h' hr=>by simp [evF] at hr⟩
 | n+1=>by
  have ih:=evF_sound (E:=E) hP hO n
  refine ⟨fun f args h lo r hr=>?_,fun f args h lo v h' hr hlo B M w args' hs hargs=>?_⟩
  ·simp only [evF,evCall] at hr
   split at hr
   ·exact hO.dfd _ _ ‹_› _ _ _ _ hr
   simp only [evBody,Option.bind_eq_some_iff] at hr
   obtain ⟨fn,h1,c,h2,_⟩:=hr
   exact ⟨fn,h1,by rw [h2];rfl⟩
  ·simp only [evF,evCall] at hr
   split at hr
   ·exact hO.snd _ _ ‹_› _ _ _ _ _ hr hlo B M w args' hs hargs
   simp only [evBody,Option.bind_eq_some_iff] at hr
   obtain ⟨fn,hf,c,hb,⟨e,σ,h1⟩,hc,hr⟩:=hr
   refine calls_of_wp hf hb ?_
   have hsr:SRel M (args++List.replicate (fn.ntmps-args.length) undef) (args'++Array.replicate (fn.ntmps-args'.size) undef):=by
    have hl:args.length=args'.size:=by simpa using hargs.1
    refine ⟨by simp [hl],fun i u u' hu hu'=>?_⟩
    by_cases hi:i<args.length
    ·rw [List.getElem?_append_left hi] at hu
     rw [Array.getElem?_append_left (by omega)] at hu'
     exact hargs.2 i u u' hu (by simpa using hu')
    ·rw [List.getElem?_append_right (Nat.le_of_not_lt hi),List.getElem?_replicate] at hu
     split at hu
     ·cases hu;exact .top _
     ·cases hu
   refine evG_sound hP.mixed hP.good ih (evF_keep hO.keep n) (fun c b k hb=>loop_sound hb k n) (fun k b hb=>evLoop_keep k b hb n) c (hP.code f fn c hf hb) _ _ _ _ _ hc hlo M w _ hsr rfl hs _ fun a' w' haft=>?_
   obtain ⟨hd,M₁,q1,q2,q3⟩:=haft
   cases e <;> simp only [Option.map_eq_some_iff,Prod.mk.injEq,reduceCtorEq] at hr
   case normal =>
    obtain ⟨v1,hv,rfl,rfl⟩:=hr
    obtain ⟨v',r1,r2⟩:=ret_sound hv q1 q2
    exact ⟨hd,v',r1,v',rfl,M₁,r2,q2,q3⟩
   case ret =>
    obtain ⟨v1,hv,rfl,rfl⟩:=hr
    obtain ⟨v',r1,r2⟩:=ret_sound hv q1 q2
    exact ⟨hd,v',r1,v',rfl,M₁,r2,q2,q3⟩
end Go.Proofs.YtplebjehcgcdeaaGreatDoor.Bm
namespace Go.Proofs.YtplebjehcgcdeaaGreatDoor.Bm
open Go Go.RowKit
noncomputable def lim {α:Type} (F:Nat→Option α):Option α :=
 open Classical in if h:∃ n,(F n).isSome=true then F h.choose else none
def Grows {α:Type} (F:Nat→Option α):Prop:=∀ n m r,n≤m→F n=some r→F m=some r
theorem lim_some {α:Type} {F:Nat→Option α} (hF:Grows F) {r:α}:lim F=some r↔∃ n,F n=some r:=by
 unfold lim
 constructor
 ·intro h
  split at h
  ·exact ⟨_,h⟩
  ·cases h
 ·rintro ⟨n,hn⟩
  have he:∃ n,(F n).isSome=true:=⟨n,by rw [hn];rfl⟩
  rw [dif_pos he]
  obtain ⟨x,hx⟩:=Option.isSome_iff_exists.1 he.choose_spec
  rw [hx]
  rcases Nat.le_total n he.choose with h | h
  ·rw [hF _ _ _ h hn] at hx;exact hx.symm
  ·rw [hF _ _ _ h hx] at hn;exact hn
def LeC (C C':Callee):Prop:=∀ f args h lo r,C f args h lo=some r→C' f args h lo=some r
def LeB (b b':Body):Prop:=∀ σ h r,b σ h=some r→b' σ h=some r
section
variable {E:Env}
theorem bind_le {α β:Type} {x x':Option α} {f f':α→Option β} (hx:∀ a,x=some a→x'=some a) (hf:∀ a b,f a=some b→f' a=some b) {b:β} (h:x.bind f=some b):x'.bind f'=some b:=by
 simp only [Option.bind_eq_some_iff] at h ⊢
 obtain ⟨a,h1,h2⟩:=h
 exact ⟨a,hx a h1,hf a b h2⟩
theorem pureCall_le {C C':Callee} (hC:LeC C C') {f:FuncId} {args:List Value} {r:Value} (h:pureCall E.P C f args=some r):pureCall E.P C' f args=some r:=by
 unfold pureCall at *
 exact bind_le (fun a ha=>hC _ _ _ _ _ ha) (fun a b hb=>hb) h
theorem retCall_le {C C':Callee} (hC:LeC C C') {lo:Nat} {strict:Bool} {f:FuncId} {args:List Value} {h:Heap} {r:Value × Heap} (hr:retCall E C lo strict f args h=some r):retCall E C' lo strict f args h=some r:=by
 unfold retCall at *
 split at hr
 ·refine bind_le (fun a ha=>ha) (fun a b hb=>bind_le (fun a ha=>pureCall_le hC ha) (fun a b hb=>hb) hb) hr
 ·split at hr
  ·rw [if_pos ‹_›]
   simp only [Option.map_eq_some_iff] at hr ⊢
   obtain ⟨a,h1,h2⟩:=hr
   exact ⟨a,pureCall_le hC h1,h2⟩
  ·cases hr
 ·split at hr
  ·cases hr
  ·rw [if_neg ‹_›];exact hC _ _ _ _ _ hr
 ·split at hr
  ·cases hr
  ·rw [if_neg ‹_›]
   simp only [Option.bind_eq_some_iff,Option.map_eq_some_iff] at hr ⊢
   obtain ⟨q,h0,a,h1,h2⟩:=hr
   exact ⟨q,h0,a,pureCall_le hC h1,h2⟩
 ·simp only [Option.bind_eq_some_iff,Option.map_eq_some_iff] at hr ⊢
  obtain ⟨a,h1,q,h2,h3⟩:=hr
  exact ⟨a,hC _ _ _ _ _ h1,q,h2,h3⟩
 ·split at hr
  ·cases hr
  ·rw [if_neg ‹_›]
   simp only [Option.map_eq_some_iff] at hr ⊢
   obtain ⟨a,h1,h2⟩:=hr
   exact ⟨a,hC _ _ _ _ _ h1,h2⟩
theorem aop_le {C C':Callee} (hC:LeC C C') {lo:Nat} {strict:Bool} {op:Op} {ρ:Operand→Value} {h:Heap} {r:Value × Heap} (hr:aop E C lo strict op ρ h=some r):aop E C' lo strict op ρ h=some r:=by
 cases op with
 | call c =>
  simp only [aop] at hr ⊢
  split at hr
  ·unfold aCall at *
   split at hr
   ·exact retCall_le hC hr
   ·cases hr
  ·exact hr
  ·cases hr
 | makeFunc fn _ _=>cases fn <;> exact hr
 | _=>exact hr
theorem runOps_le {C C':Callee} (hC:LeC C C') {lo:Nat} {ops:Array Oper}:∀ (l:List (Oper × Bool)) (σ:Slots) (h:Heap) (r:Slots × Heap),runOps E C lo ops l σ h=some r→runOps E C' lo ops l σ h=some r
 | [],σ,h,r,hr=>hr
 | (o,st) :: l,σ,h,r,hr=>by
  simp only [runOps] at hr ⊢
  split at hr
  ·exact bind_le (fun a ha=>aop_le hC ha) (fun a b hb=>runOps_le hC l _ _ _ hb) hr
  ·exact runOps_le hC l _ _ _ hr
  ·cases hr
theorem runQ_le {C C':Callee} (hC:LeC C C') {lo:Nat} {cm:Nat × Nat} {ops:Array Oper}:∀ (l:List ((Oper × Bool) × Bool)) (σ:Slots) (h:Heap) (r:Slots × Heap),runQ E C lo cm ops l σ h=some r→runQ E C' lo cm ops l σ h=some r
 | [],σ,h,r,hr=>hr
 | ((o,st),rc) :: l,σ,h,r,hr=>by
  simp only [runQ] at hr ⊢
  split at hr
  ·refine bind_le (fun a ha=>aop_le hC ha) (fun a b hb=>?_) hr
   split at hb
   ·cases hb
   ·rename_i hc
    rw [if_neg hc]
    exact runQ_le hC l _ _ _ hb
  ·exact runQ_le hC l _ _ _ hr
  ·cases hr
theorem runReg_le {C C':Callee} (hC:LeC C C') {f:FuncId} {lo id:Nat} {ops:Array Oper} {draw:Bool} {x r:Slots × Heap} (hr:runReg E f C lo id ops draw x=some r):runReg E f C' lo id ops draw x=some r:=by
 unfold runReg at hr ⊢
 split at hr
 ·obtain ⟨cm,h1,hr⟩:=Option.bind_eq_some_iff.1 hr
  exact Option.bind_eq_some_iff.2 ⟨cm,h1,runQ_le hC _ _ _ _ hr⟩
 ·exact runOps_le hC _ _ _ _ hr
theorem evG_le {f:FuncId} {C C':Callee} (hC:LeC C C') {Lp Lp':List Nat × List Nat→Body→Body} (hL:∀ k b b',LeB b b'→LeB (Lp k b) (Lp' k b')) {lo:Nat}:∀ c:Code,LeB (evG E f C Lp lo c) (evG E f C' Lp' lo c):=by
 intro c
 induction c with
 | region id ops draw =>
  intro σ h r hr
  simp only [evG] at hr ⊢
  refine bind_le (fun a ha=>ha) (fun a b hb=>?_) hr
  simp only [Option.map_eq_some_iff] at hb ⊢
  obtain ⟨x,h1,h2⟩:=hb
  exact ⟨x,runReg_le hC h1,h2⟩
 | seq a b iha ihb =>
  intro σ h r hr
  simp only [evG] at hr ⊢
  refine bind_le (fun x hx=>iha _ _ _ hx) (fun x y hy=>?_) hr
  obtain ⟨e1,σ1,h1⟩:=x
  cases e1 <;> simp only at hy ⊢
  case normal=>exact ihb _ _ _ hy
  all_goals exact hy
 | cond c a b iha ihb =>
  intro σ h r hr
  simp only [evG] at hr ⊢
  split at hr
  ·exact iha _ _ _ hr
  ·exact ihb _ _ _ hr
  ·cases hr
 | block id a iha =>
  intro σ h r hr
  simp only [evG,Option.map_eq_some_iff] at hr ⊢
  obtain ⟨x,h1,h2⟩:=hr
  exact ⟨x,iha _ _ _ h1,h2⟩
 | loop a iha=>intro σ h r hr;exact hL _ _ _ iha _ _ _ hr
 | scope a iha =>
  intro σ h r hr
  simp only [evG] at hr ⊢
  exact bind_le (fun x hx=>iha _ _ _ hx) (fun x y hy=>hy) hr
 | _=>intro σ h r hr;exact hr
theorem evLoop_le (k:List Nat × List Nat) {b b':Body} (hb:LeB b b'):∀ n m,n≤m→LeB (evLoop n k b) (evLoop m k b'):=by
 intro n
 induction n with
 | zero=>intro m _ σ h r hr;simp [evLoop] at hr
 | succ n ih =>
  intro m hm σ h r hr
  obtain ⟨m,rfl⟩:∃ m',m=m'+1:=⟨m-1,by omega⟩
  simp only [evLoop] at hr ⊢
  refine bind_le (fun x hx=>hb _ _ _ hx) (fun x y hy=>?_) hr
  obtain ⟨e1,σ1,h1⟩:=x
  cases e1 <;> simp only at hy ⊢
  case normal=>exact ih m (by omega) _ _ _ hy
  all_goals exact hy
theorem evCall_le {C C':Callee} (hC:LeC C C') {Lp Lp':List Nat × List Nat→Body→Body} (hL:∀ k b b',LeB b b'→LeB (Lp k b) (Lp' k b')):LeC (evCall E C Lp) (evCall E C' Lp'):=by
 intro f args h lo r hr
 unfold evCall at *
 split at hr
 ·exact hr
 simp only [evBody] at hr ⊢
 refine bind_le (fun x hx=>hx) (fun x y hy=>bind_le (fun x hx=>hx) (fun x y hy=>bind_le (fun x hx=>evG_le hC hL _ _ _ _ hx) (fun x y hy=>hy) hy) hy) hr
theorem evF_mono:∀ n m,n≤m→LeC (evF E n) (evF E m):=by
 intro n
 induction n with
 | zero=>intro m _ f args h lo r hr;simp [evF] at hr
 | succ n ih =>
  intro m hm
  obtain ⟨m,rfl⟩:∃ m',m=m'+1:=⟨m-1,by omega⟩
  exact evCall_le (ih m (by omega)) fun k b b' hb=>evLoop_le k hb n m (by omega)
noncomputable def L (E:Env):Callee:=fun f args h lo=>lim fun n=>evF E n f args h lo
noncomputable def LL (k:List Nat × List Nat) (b:Body):Body:=fun σ h=>lim fun n=>evLoop n k b σ h
theorem L_some {f:FuncId} {args:List Value} {h:Heap} {lo:Nat} {r:Value × Heap}:L E f args h lo=some r↔∃ n,evF E n f args h lo=some r :=
 lim_some fun n m _r hm hr=>evF_mono n m hm _ _ _ _ _ hr
theorem LL_some {k:List Nat × List Nat} {b:Body} {σ:Slots} {h:Heap} {r:Exit × Slots × Heap}:LL k b σ h=some r↔∃ n,evLoop n k b σ h=some r :=
 lim_some fun n m _r hm hr=>evLoop_le k (fun _ _ _ h=>h) n m hm _ _ _ hr
theorem evF_L (n:Nat):LeC (evF E n) (L E):=fun _ _ _ _ _ hr=>L_some.2 ⟨n,hr⟩
theorem evLoop_LL (n:Nat) (k:List Nat × List Nat) {b b':Body} (hb:LeB b b'):LeB (evLoop n k b) (LL k b'):=fun _ _ _ hr=>LL_some.2 ⟨n,evLoop_le k hb n n (Nat.le_refl _) _ _ _ hr⟩
def At {α:Type} (F:Nat→Option α) (r:α):Prop:=∃ n,∀ m,n≤m→F m=some r
theorem At.pure {α:Type} {x:Option α} {r:α} (h:x=some r):At (fun _=>x) r:=⟨0,fun _ _=>h⟩
theorem At.bind {α β:Type} {F:Nat→Option α} {G:Nat→α→Option β} {a:α} {b:β} (h:At F a) (k:At (fun n=>G n a) b):At (fun n=>(F n).bind (G n)) b:=by
 obtain ⟨n,hn⟩:=h
 obtain ⟨m,hm⟩:=k
 refine ⟨max n m,fun x hx=>?_⟩
 simp only [hn x (by omega),Option.bind_some]
 exact hm x (by omega)
theorem L_at {f:FuncId} {args:List Value} {h:Heap} {lo:Nat} {r:Value × Heap} (hr:L E f args h lo=some r):At (fun n=>evF E n f args h lo) r:=by
 obtain ⟨n,hn⟩:=L_some.1 hr
 exact ⟨n,fun m hm=>evF_mono n m hm _ _ _ _ _ hn⟩
theorem At.map {α β:Type} {F:Nat→Option α} {a:α} (g:α→β) (h:At F a):At (fun n=>(F n).map g) (g a):=by
 obtain ⟨n,hn⟩:=h
 exact ⟨n,fun m hm=>by simp [hn m hm]⟩
theorem pureCall_at {f:FuncId} {args:List Value} {r:Value} (hr:pureCall E.P (L E) f args=some r):At (fun n=>pureCall E.P (evF E n) f args) r:=by
 unfold pureCall at *
 simp only [Option.bind_eq_some_iff] at hr
 obtain ⟨x,h1,h2⟩:=hr
 exact (L_at h1).bind (.pure h2)
theorem aop_at {lo:Nat} {strict:Bool} {op:Op} {ρ:Operand→Value} {h:Heap} {r:Value × Heap} (hr:aop E (L E) lo strict op ρ h=some r):At (fun n=>aop E (evF E n) lo strict op ρ h) r:=by
 cases op with
 | call c =>
  simp only [aop] at hr ⊢
  split at hr
  ·rename_i f hcal
   try simp only [hcal]
   unfold aCall at *
   split at hr
   case h_2=>cases hr
   rename_i g first captured hf
   try simp only [hf]
   unfold retCall at *
   split at hr
   ·rename_i hm
    try simp only [hm]
    simp only [Option.bind_eq_some_iff] at hr
    obtain ⟨ts,h1,x,h2,h3⟩:=hr
    exact (At.pure h1).bind ((pureCall_at h2).bind (.pure h3))
   ·rename_i hm
    try simp only [hm]
    split at hr
    ·rename_i hs
     simp only [if_pos hs]
     simp only [Option.map_eq_some_iff] at hr
     obtain ⟨x,h1,rfl⟩:=hr
     exact (pureCall_at h1).map _
    ·cases hr
   ·rename_i hm
    try simp only [hm]
    split at hr
    ·cases hr
    ·rename_i hs
     simp only [if_neg hs]
     exact L_at hr
   ·rename_i hm
    try simp only [hm]
    split at hr
    ·cases hr
    ·rename_i hs
     simp only [if_neg hs]
     simp only [Option.bind_eq_some_iff,Option.map_eq_some_iff] at hr
     obtain ⟨q,h0,x,h1,rfl⟩:=hr
     exact (At.pure h0).bind ((pureCall_at h1).map _)
   ·rename_i hm
    try simp only [hm]
    simp only [Option.bind_eq_some_iff] at hr
    obtain ⟨x,h1,hr⟩:=hr
    exact (L_at h1).bind (At.pure hr)
   ·rename_i hm0 hm1 hm2 hm4 hm5
    split at hr
    ·cases hr
    rename_i hs
    simp only [Option.map_eq_some_iff] at hr
    obtain ⟨x,h1,rfl⟩:=hr
    have e:=(L_at h1).map fun r=>(r.1,trim h.length [r.1] r.2)
    obtain ⟨n,hn⟩:=e
    refine ⟨n,fun m hm=>?_⟩
    simp only [if_neg hs]
    exact hn m hm
  ·rename_i b hcal
   try simp only [hcal]
   exact .pure hr
  ·cases hr
 | makeFunc fn _ _=>cases fn <;> exact .pure hr
 | _=>exact .pure hr
theorem runOps_at {lo:Nat} {ops:Array Oper}:∀ (l:List (Oper × Bool)) (σ:Slots) (h:Heap) (r:Slots × Heap),runOps E (L E) lo ops l σ h=some r→At (fun n=>runOps E (evF E n) lo ops l σ h) r
 | [],σ,h,r,hr=>.pure hr
 | (o,st) :: l,σ,h,r,hr=>by
  simp only [runOps] at hr ⊢
  split at hr
  ·rename_i hg
   try simp only [hg]
   simp only [Option.bind_eq_some_iff] at hr
   obtain ⟨x,h1,h2⟩:=hr
   exact (aop_at h1).bind (runOps_at l _ _ _ h2)
  ·rename_i hg
   try simp only [hg]
   exact runOps_at l _ _ _ hr
  ·cases hr
theorem runQ_at {lo:Nat} {cm:Nat × Nat} {ops:Array Oper}:∀ (l:List ((Oper × Bool) × Bool)) (σ:Slots) (h:Heap) (r:Slots × Heap),runQ E (L E) lo cm ops l σ h=some r→At (fun n=>runQ E (evF E n) lo cm ops l σ h) r
 | [],σ,h,r,hr=>.pure hr
 | ((o,st),rc) :: l,σ,h,r,hr=>by
  simp only [runQ] at hr ⊢
  split at hr
  ·rename_i hg
   try simp only [hg]
   simp only [Option.bind_eq_some_iff] at hr
   obtain ⟨x,h1,h2⟩:=hr
   refine (aop_at h1).bind ?_
   split at h2
   ·cases h2
   ·rename_i hc
    simp only [if_neg hc]
    exact runQ_at l _ _ _ h2
  ·rename_i hg
   try simp only [hg]
   exact runQ_at l _ _ _ hr
  ·cases hr
theorem runReg_at {f:FuncId} {lo id:Nat} {ops:Array Oper} {draw:Bool} {x r:Slots × Heap} (hr:runReg E f (L E) lo id ops draw x=some r):At (fun n=>runReg E f (evF E n) lo id ops draw x) r:=by
 unfold runReg at hr ⊢
 cases draw with
 | false =>
  cases hq:calmS (E.prep f id) <;> (rw [hq] at hr;exact runOps_at _ _ _ _ hr)
 | true =>
  cases hq:calmS (E.prep f id) with
  | none=>rw [hq] at hr;exact runOps_at _ _ _ _ hr
  | some s =>
   rw [hq] at hr
   obtain ⟨cm,h1,hr⟩:=Option.bind_eq_some_iff.1 hr
   exact (At.pure h1).bind (runQ_at _ _ _ _ hr)
theorem evG_at {f:FuncId} {lo:Nat}:∀ (c:Code) (σ:Slots) (h:Heap) (r:Exit × Slots × Heap),evG E f (L E) LL lo c σ h=some r→At (fun n=>evG E f (evF E n) (evLoop n) lo c σ h) r:=by
 intro c
 induction c with
 | region id ops draw =>
  intro σ h r hr
  simp only [evG] at hr ⊢
  simp only [Option.bind_eq_some_iff,Option.map_eq_some_iff] at hr
  obtain ⟨x,h1,y,h2,rfl⟩:=hr
  exact (At.pure h1).bind ((runReg_at h2).map _)
 | seq a b iha ihb =>
  intro σ h r hr
  simp only [evG,Option.bind_eq_some_iff] at hr ⊢
  obtain ⟨⟨e1,σ1,h1⟩,ha,hr⟩:=hr
  refine (iha _ _ _ ha).bind ?_
  cases e1 <;> simp only at hr ⊢
  case normal=>exact ihb _ _ _ hr
  all_goals exact .pure hr
 | cond c a b iha ihb =>
  intro σ h r hr
  simp only [evG] at hr ⊢
  split at hr
  ·exact iha _ _ _ hr
  ·exact ihb _ _ _ hr
  ·cases hr
 | block id a iha =>
  intro σ h r hr
  simp only [evG,Option.map_eq_some_iff] at hr ⊢
  obtain ⟨x,h1,rfl⟩:=hr
  exact (iha _ _ _ h1).map _
 | scope a iha =>
  intro σ h r hr
  simp only [evG,Option.bind_eq_some_iff] at hr ⊢
  obtain ⟨x,h1,h2⟩:=hr
  exact (iha _ _ _ h1).bind (.pure h2)
 | loop a iha =>
  intro σ h r hr
  simp only [evG] at hr ⊢
  obtain ⟨m,hm⟩:=LL_some.1 hr
  suffices key:∀ m σ h,evLoop m (E.kill f ((firstReg a).getD 0)) (evG E f (L E) LL lo a) σ h=some r→At (fun n=>evLoop m (E.kill f ((firstReg a).getD 0)) (evG E f (evF E n) (evLoop n) lo a) σ h) r by
   obtain ⟨n,hn⟩:=key m σ h hm
   refine ⟨max n m,fun x hx=>?_⟩
   exact evLoop_le _ (fun _ _ _ h=>h) m x (by omega) _ _ _ (hn x (by omega))
  intro m
  induction m with
  | zero=>intro σ h hr;simp [evLoop] at hr
  | succ m ih =>
   intro σ h hr
   simp only [evLoop,Option.bind_eq_some_iff] at hr ⊢
   obtain ⟨⟨e1,σ1,h1⟩,ha,hr⟩:=hr
   refine (iha _ _ _ ha).bind ?_
   cases e1 <;> simp only at hr ⊢
   case normal=>exact ih _ _ hr
   all_goals exact .pure hr
 | _=>intro σ h r hr;exact .pure hr
theorem evCall_at {f:FuncId} {args:List Value} {h:Heap} {lo:Nat} {r:Value × Heap} (hr:evCall E (L E) LL f args h lo=some r):At (fun n=>evCall E (evF E n) (evLoop n) f args h lo) r:=by
 unfold evCall at *
 split at hr
 ·exact .pure hr
 ·simp only [evBody,Option.bind_eq_some_iff] at hr
  obtain ⟨fn,h1,c,h2,x,h3,h4⟩:=hr
  simp only [evBody]
  exact (At.pure h1).bind ((At.pure h2).bind ((evG_at _ _ _ _ h3).bind (.pure h4)))
theorem L_eq (f:FuncId) (args:List Value) (h:Heap) (lo:Nat):L E f args h lo=evCall E (L E) LL f args h lo:=by
 apply Option.ext
 intro r
 constructor
 ·intro hr
  obtain ⟨n,hn⟩:=L_some.1 hr
  cases n with
  | zero=>simp [evF] at hn
  | succ n=>exact evCall_le (evF_L n) (fun k b b' hb=>evLoop_LL n k hb) _ _ _ _ _ hn
 ·intro hr
  obtain ⟨n,hn⟩:=evCall_at hr
  exact L_some.2 ⟨n+1,hn n (Nat.le_refl _)⟩
theorem LL_eq (k:List Nat × List Nat) (b:Body) (σ:Slots) (h:Heap):LL k b σ h=(b (forget k.1 σ) h).bind fun r=>match r.1 with
  | .normal=>LL k b (forget k.1 r.2.1) (trim h.length (forget k.1 r.2.1) r.2.2)
  | _=>some (r.1,forget k.2 r.2.1,trim h.length (forget k.2 r.2.1) r.2.2):=by
 apply Option.ext
 intro r
 constructor
 ·intro hr
  obtain ⟨n,hn⟩:=LL_some.1 hr
  cases n with
  | zero=>simp [evLoop] at hn
  | succ n =>
   simp only [evLoop] at hn
   refine bind_le (fun x hx=>hx) (fun x y hy=>?_) hn
   obtain ⟨e1,σ1,h1⟩:=x
   cases e1 <;> simp only at hy ⊢
   case normal=>exact LL_some.2 ⟨n,hy⟩
   all_goals exact hy
 ·intro hr
  simp only [Option.bind_eq_some_iff] at hr
  obtain ⟨⟨e1,σ1,h1⟩,ha,hr⟩:=hr
  cases e1 <;> simp only at hr
  case normal =>
   obtain ⟨n,hn⟩:=LL_some.1 hr
   exact LL_some.2 ⟨n+1,by simp only [evLoop,ha,Option.bind_some];exact hn⟩
  all_goals exact LL_some.2 ⟨1,by simp only [evLoop,ha,Option.bind_some];exact hr⟩
theorem L_sound (hP:OkProg E.P) (hO:OrcSound E):CSound E (L E) :=
 ⟨fun f args h lo r hr=>by obtain ⟨n,hn⟩:=L_some.1 hr;exact (evF_sound hP hO n).dfd _ _ _ _ _ hn,
  fun f args h lo v h' hr=>by obtain ⟨n,hn⟩:=L_some.1 hr;exact (evF_sound hP hO n).snd _ _ _ _ _ _ hn⟩
end
end Go.Proofs.YtplebjehcgcdeaaGreatDoor.Bm
