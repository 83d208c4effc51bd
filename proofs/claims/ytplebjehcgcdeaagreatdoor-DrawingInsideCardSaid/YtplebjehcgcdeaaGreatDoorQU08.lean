/-
 What the abstract machine leaves alone: objects below a bound, where nothing may be written; the heap never shrinks. Conditions: none.
-/
import Derived.Test.YtplebjehcgcdeaaGreatDoorQU07
namespace Go.Proofs.YtplebjehcgcdeaaGreatDoor.Bm
open Go Go.RowKit
def Keep (lo:Nat) (h h':Heap):Prop:=h.length≤h'.length∧(∀ o,o<lo→h'[o]?=h[o]?)∧∀ o,o<h.length→alive h' o→alive h o
def KeepC (C:Callee):Prop:=∀ f args h lo v h',C f args h lo=some (v,h')→lo≤h.length→Keep lo h h'
section
variable {E:Env} {h h':Heap}
theorem Keep.refl (lo:Nat) (h:Heap):Keep lo h h:=⟨Nat.le_refl _,fun _ _=>rfl,fun _ _ a=>a⟩
theorem Keep.trans {lo:Nat} {h₁ h₂:Heap} (a:Keep lo h h₁) (b:Keep lo h₁ h₂):Keep lo h h₂:=⟨Nat.le_trans a.1 b.1,fun o ho=>(b.2.1 o ho).trans (a.2.1 o ho),fun o ho ha=>a.2.2 o ho (b.2.2 o (Nat.lt_of_lt_of_le ho a.1) ha)⟩
theorem Keep.weaken {lo lo':Nat} (a:Keep lo h h') (hl:lo'≤lo):Keep lo' h h':=⟨a.1,fun o ho=>a.2.1 o (Nat.lt_of_lt_of_le ho hl),a.2.2⟩
theorem Keep.snoc {lo:Nat} (hlo:lo≤h.length) (x:AObj):Keep lo h (h++[x]):=⟨by simp,fun o ho=>by rw [List.getElem?_append_left (by omega)],fun o ho ⟨y,hy,hy'⟩=>⟨y,by rw [List.getElem?_append_left ho] at hy;exact hy,hy'⟩⟩
theorem Keep.ext (k:Keep h.length h h'):∃ e,h'=h++e:=by
 refine ⟨h'.drop h.length,?_⟩
 apply List.ext_getElem?
 intro i
 by_cases hi:i<h.length
 ·rw [k.2.1 i hi,List.getElem?_append_left hi]
 ·rw [List.getElem?_append_right (Nat.le_of_not_lt hi),List.getElem?_drop]
  congr 1;omega
theorem wrN_keep {lo:Nat} {a:Addr} {vs:List Value} (hw:wrN h lo a vs=some h'):Keep lo h h':=by
 unfold wrN at hw
 split at hw
 ·rename_i hob
  split at hw
  ·rename_i hc
   cases hw
   exact ⟨by simp,fun o ho=>by rw [List.getElem?_set_ne (by omega)],fun o _ ha=>(alive_set hob).1 ha⟩
  ·cases hw
 ·cases hw
theorem box_keep {lo:Nat} (hlo:lo≤h.length) {t:TypeId} {x v:Value} (hv:aBox h t x=some (v,h')):Keep lo h h':=by
 unfold aBox at hv
 simp only [Option.map_eq_some_iff] at hv
 obtain ⟨cs,_,e⟩:=hv
 cases e
 exact .snoc hlo _
theorem append_keep {lo:Nat} (hlo:lo≤h.length) {strict:Bool} {ts:Array TypeId} {d x v:Value} (hv:aAppend E h lo strict ts d x=some (v,h')):Keep (if strict then h.length else lo) h h':=by
 have hl:(if strict then h.length else lo)≤h.length:=by split <;> omega
 unfold aAppend at hv
 split at hv
 case h_2=>cases hv
 split at hv
 ·cases hv
 simp only [Option.bind_eq_some_iff] at hv
 obtain ⟨i,_,z,_,hv⟩:=hv
 split at hv
 ·cases hv
 simp only [Option.bind_eq_some_iff] at hv
 obtain ⟨new,_,hv⟩:=hv
 unfold aApp at hv
 split at hv
 ·split at hv
  ·cases hv;exact .refl _ _
  ·split at hv
   ·cases hv;exact .snoc hl _
   ·cases hv
 ·split at hv
  ·split at hv
   ·cases hv;exact .refl _ _
   ·cases hv
  ·split at hv
   ·cases hv;exact .snoc hl _
   ·cases hv
 ·split at hv
  ·split at hv
   ·split at hv
    ·cases hv;exact .refl _ _
    ·cases hv
   ·split at hv
    ·cases hv
    ·rename_i hst
     simp only [Bool.or_eq_true,not_or,Bool.not_eq_true] at hst
     obtain ⟨rfl,_⟩:=hst
     simp only [Option.map_eq_some_iff] at hv
     obtain ⟨h1,hw,e⟩:=hv
     cases e
     simpa using wrN_keep hw
  ·split at hv
   ·split at hv
    ·split at hv
     ·cases hv;exact .snoc hl _
     ·cases hv
    ·rename_i hob _
     split at hv
     ·cases hv
     ·rename_i hst
      simp only [Bool.or_eq_true,Bool.not_eq_true',decide_eq_false_iff_not,not_or,Bool.not_eq_true,Decidable.not_not] at hst
      obtain ⟨⟨⟨⟨⟨⟨rfl,hlo'⟩,_⟩,_⟩,_⟩,_⟩,_⟩:=hst
      cases hv
      exact ⟨by simp,fun o ho=>by rw [List.getElem?_set_ne (by simp at ho;omega)],fun o _ ha=>(alive_set hob).1 ha⟩
    ·cases hv
   ·cases hv
 ·cases hv
theorem append2_keep {lo:Nat} (hlo:lo≤h.length) {strict:Bool} {ts:Array TypeId} {d x v:Value} (hv:aAppend2 E h lo strict ts d x=some (v,h')):Keep (if strict then h.length else lo) h h':=by
 have hl:(if strict then h.length else lo)≤h.length:=by split <;> omega
 unfold aAppend2 at hv
 split at hv
 ·unfold aAppendN at hv
  split at hv
  case h_2=>cases hv
  simp only [Option.bind_eq_some_iff] at hv
  obtain ⟨i,_,z,_,hv⟩:=hv
  split at hv
  ·cases hv
  split at hv
  case h_2=>cases hv
  split at hv
  ·cases hv;exact .snoc hl _
  ·cases hv
 ·split at hv
  ·unfold aAppendS at hv
   split at hv
   ·split at hv
    ·exact append_keep hlo hv
    ·cases hv
   ·cases hv
  ·exact append_keep hlo hv
theorem trim_keep {lo:Nat} {vs:List Value} (k:Keep lo h h') (hlo:lo≤h.length):Keep lo h (trim h.length vs h'):=by
 unfold trim
 split
 ·exact k
 ·split
  ·refine ⟨by rw [List.length_take];exact Nat.le_min.2 ⟨Nat.le_refl _,k.1⟩,fun o ho=>?_,fun o ho ha=>k.2.2 o ho (alive_take ha)⟩
   rw [List.getElem?_take,if_pos (by omega)];exact k.2.1 o ho
  ·exact k
theorem Keep.dead {lo o:Nat} (hlo:lo≤o):Keep lo h (h.set o .dead) :=
 ⟨by simp,fun o' ho=>by rw [List.getElem?_set_ne (by omega)],fun o' _ ha=>(alive_dead ha).2⟩
theorem freezeV_keep {P:Program} {lo:Nat}:∀ (n:Nat) (h h':Heap) (v u:Value),freezeV P n lo h v=some (u,h')→Keep lo h h'
 | 0,h,h',v,u,hr=>by simp [freezeV] at hr
 | n+1,h,h',v,u,hr=>by
  have ih:=freezeV_keep (P:=P) (lo:=lo) n
  have fold:∀ (c acc:List Value) (h:Heap) (r:List Value × Heap),c.foldlM (init:=(acc,h)) (fun r x=>(freezeV P n lo r.2 x).map fun y=>(r.1++[y.1],y.2))=some r→Keep lo h r.2:=by
   intro c
   induction c with
   | nil=>intro acc h r hr;simp at hr;subst hr;exact .refl _ _
   | cons x c ihc =>
    intro acc h r hr
    simp only [List.foldlM_cons,bind,Option.bind_eq_some_iff,Option.map_eq_some_iff] at hr
    obtain ⟨_,⟨⟨y,h1⟩,hy,rfl⟩,hr⟩:=hr
    exact (ih _ _ _ _ hy).trans (ihc _ _ _ hr)
  have all:∀ {c:List Value} {h:Heap} {r:List Value × Heap},(if c.all (settled depth) then some (c,h) else
    c.foldlM (init:=([],h)) fun r x=>(freezeV P n lo r.2 x).map fun y=>(r.1++[y.1],y.2))=some r→Keep lo h r.2:=by
   intro c h r hr
   split at hr
   ·cases hr;exact .refl _ _
   ·exact fold _ _ _ _ hr
  unfold freezeV at hr
  split at hr
  ·split at hr
   case h_2=>cases hr
   split at hr
   case isFalse=>cases hr
   rename_i hc
   simp only [Option.bind_eq_some_iff] at hr
   obtain ⟨r,hall,hr⟩:=hr
   have:=(Keep.dead (h:=h) hc.1).trans (all hall)
   split at hr <;> first | (cases hr;exact this) | cases hr
  ·split at hr
   ·cases hr;exact .refl _ _
   ·split at hr
    case h_2=>cases hr
    simp only [Option.bind_eq_some_iff] at hr
    obtain ⟨s,_,hr⟩:=hr
    split at hr
    case isFalse=>cases hr
    rename_i hc
    simp only [Option.bind_eq_some_iff,Option.map_eq_some_iff] at hr
    obtain ⟨r,hall,l,_,e⟩:=hr
    cases e
    exact (Keep.dead (h:=h) hc.1).trans (all hall)
  ·simp only [Option.map_eq_some_iff] at hr
   obtain ⟨r,hall,e⟩:=hr
   cases e
   exact all hall
  ·split at hr
   ·cases hr;exact .refl _ _
   ·cases hr
theorem frzAll_keep {P:Program} {lo:Nat} {vs:List Value} {r:List Value × Heap} (hr:frzAll P lo vs h=some r):Keep lo h r.2:=by
 have fold:∀ (c acc:List Value) (h:Heap) (r:List Value × Heap),c.foldlM (init:=(acc,h)) (fun r x=>(freezeV P depth lo r.2 x).map fun y=>(r.1++[y.1],y.2))=some r→Keep lo h r.2:=by
  intro c
  induction c with
  | nil=>intro acc h r hr;simp at hr;subst hr;exact .refl _ _
  | cons x c ihc =>
   intro acc h r hr
   simp only [List.foldlM_cons,bind,Option.bind_eq_some_iff,Option.map_eq_some_iff] at hr
   obtain ⟨_,⟨⟨y,h1⟩,hy,rfl⟩,hr⟩:=hr
   exact (freezeV_keep _ _ _ _ _ hy).trans (ihc _ _ _ hr)
 exact fold _ _ _ _ hr
theorem Keep.setMap {lo o:Nat} {x y:AObj} (hlo:lo≤o) (ho:h[o]?=some x) (hx:x≠.dead):Keep lo h (h.set o y) :=
 ⟨by simp,fun o' ho'=>List.getElem?_set_ne (by omega),fun o' _ ⟨z,hz,hz'⟩=>by
  by_cases e:o'=o
  ·subst e;exact ⟨x,ho,hx⟩
  ·rw [List.getElem?_set_ne (Ne.symm e)] at hz;exact ⟨z,hz,hz'⟩⟩
theorem Keep.app {lo:Nat} {h:Heap} (hlo:lo≤h.length):∀ (e:Heap),Keep lo h (h++e):=fun e =>
 ⟨by simp,fun o ho=>by rw [List.getElem?_append_left (by omega)],fun o ho ⟨y,hy,hy'⟩=>⟨y,by rw [List.getElem?_append_left ho] at hy;exact hy,hy'⟩⟩
theorem prepare_keep {P:Program} {lo:Nat}:∀ (l:List Dir) (σ σ':Slots) (h h':Heap),lo≤h.length→prepare P lo l σ h=some (σ',h')→Keep lo h h'
 | [],σ,σ',h,h',_,hr=>by simp only [prepare,Option.some.injEq,Prod.mk.injEq] at hr;rw [← hr.2];exact .refl _ _
 | d :: l,σ,σ',h,h',hlo,hr=>by
  simp only [prepare,Option.bind_eq_some_iff] at hr
  obtain ⟨⟨σ1,h1⟩,h2,hr⟩:=hr
  have k1:Keep lo h h1:=by
   cases d with
   | still=>simp only [prep1,Option.some.injEq,Prod.mk.injEq] at h2;rw [← h2.2];exact .refl _ _
   | fix s=>simp only [prep1,Option.some.injEq,Prod.mk.injEq] at h2;rw [← h2.2];exact .refl _ _
   | calm s=>simp only [prep1,Option.some.injEq,Prod.mk.injEq] at h2;rw [← h2.2];exact .refl _ _
   | late s =>
    simp only [prep1] at h2
    split at h2
    case h_2=>cases h2
    rename_i a _
    split at h2
    case h_2=>cases h2
    rename_i ty c g hob
    split at h2
    case h_2=>cases h2
    rename_i m hcm
    split at h2
    case h_2=>cases h2
    rename_i es ck hm
    split at h2
    case isFalse=>cases h2
    rename_i hc
    simp only [Option.some.injEq,Prod.mk.injEq] at h2
    rw [← h2.2]
    have hne:a.block≠m:=fun e=>by rw [e,hm] at hob;cases hob
    have hlt:a.block<h.length:=(List.getElem?_eq_some_iff.1 hob).1
    refine ((Keep.setMap hc.2 hm (by simp)).trans (.app (by simpa using hlo) _)).trans (Keep.setMap (x:=.cells ty c g) hc.1 ?_ (by simp))
    rw [List.getElem?_append_left (by simpa using hlt),List.getElem?_set_ne (Ne.symm hne)]
    exact hob
   | top s=>simp only [prep1,Option.some.injEq,Prod.mk.injEq] at h2;rw [← h2.2];exact .refl _ _
   | frz s =>
    simp only [prep1,Option.map_eq_some_iff,Prod.mk.injEq] at h2
    obtain ⟨r,hf,_,rfl⟩:=h2
    exact freezeV_keep _ _ _ _ _ hf
   | new s t =>
    simp only [prep1] at h2
    split at h2
    ·simp only [Option.bind_eq_some_iff] at h2
     obtain ⟨n,_,h2⟩:=h2
     split at h2
     ·cases h2
     ·simp only [Option.some.injEq,Prod.mk.injEq] at h2
      rw [← h2.2];exact .snoc hlo _
    ·simp only [Option.bind_eq_some_iff] at h2
     obtain ⟨n,_,h2⟩:=h2
     split at h2
     ·cases h2
     ·simp only [Option.some.injEq,Prod.mk.injEq] at h2
      rw [← h2.2];exact .snoc hlo _
    ·simp only [Option.some.injEq,Prod.mk.injEq] at h2;rw [← h2.2];exact .refl _ _
   | news s t =>
    simp only [prep1] at h2
    split at h2
    case h_2=>cases h2
    split at h2
    case h_2=>cases h2
    rename_i hob
    simp only [Option.bind_eq_some_iff] at h2
    obtain ⟨n,_,h2⟩:=h2
    split at h2
    case isFalse=>cases h2
    rename_i hc
    simp only [Option.some.injEq,Prod.mk.injEq] at h2
    rw [← h2.2]
    exact (Keep.setMap hc.2.1 hob (by simp)).trans (.app (by simpa using hlo) _)
   | newc s d t =>
    simp only [prep1] at h2
    split at h2
    case h_2=>cases h2
    split at h2
    case h_2=>cases h2
    rename_i hob
    simp only [Option.bind_eq_some_iff] at h2
    obtain ⟨n,_,h2⟩:=h2
    split at h2
    case isFalse=>cases h2
    rename_i hc
    simp only [Option.some.injEq,Prod.mk.injEq] at h2
    rw [← h2.2]
    exact (Keep.setMap hc.2.1 hob (by simp)).trans (.app (by simpa using hlo) _)
  exact k1.trans (prepare_keep l _ _ _ _ (Nat.le_trans hlo k1.1) hr)
theorem putEntry_keep {P:Program} {lo:Nat} {kt:TypeId} {m k:Value} {old:Value→Value} {new:Option Value} {r} (hv:putEntry P h lo kt m k old new=some r):Keep lo h r.2:=by
 unfold putEntry at hv
 split at hv
 case h_2=>cases hv
 split at hv
 case h_2=>cases hv
 rename_i es ck hob
 split at hv
 case isFalse=>cases hv
 rename_i hc
 simp only [Option.bind_eq_some_iff] at hv
 obtain ⟨q,_,hv⟩:=hv
 split at hv
 ·simp only [Option.bind_eq_some_iff] at hv
  obtain ⟨e,_,hv⟩:=hv
  split at hv
  ·cases hv;exact .setMap hc.1 hob (by simp)
  ·cases hv
 ·simp only [Option.map_eq_some_iff] at hv
  obtain ⟨_,_,rfl⟩:=hv
  exact .setMap hc.1 hob (by simp)
theorem mapPut_keep {P:Program} {lo:Nat} {t:TypeId} {m k x:Value} (hv:aMapPut P h lo t m k x=some h'):Keep lo h h':=by
 unfold aMapPut at hv
 split at hv
 ·simp only [Option.map_eq_some_iff] at hv
  obtain ⟨r,hr,rfl⟩:=hv
  exact putEntry_keep hr
 ·cases hv
theorem aop_keep {C:Callee} (hC:KeepC C) {lo:Nat} (hlo:lo≤h.length) {strict:Bool} {op:Op} {ρA:Operand→Value} {v:Value}
  (hv:aop E C lo strict op ρA h=some (v,h')) (hfun:∀ f,ρA (.func f)=.func (.func f) #[] #[]):Keep (loOf E strict op lo h) h h':=by
 have hl:loOf E strict op lo h≤h.length:=by unfold loOf;split <;> omega
 have same:∀ {r:Option Value},(r.map (·,h))=some (v,h')→Keep (loOf E strict op lo h) h h':=by
  intro r hr
  simp only [Option.map_eq_some_iff,Prod.mk.injEq] at hr
  obtain ⟨_,_,_,rfl⟩:=hr
  exact .refl _ _
 cases op with
 | move x=>simp only [aop,Option.some.injEq,Prod.mk.injEq] at hv;rw [← hv.2];exact .refl _ _
 | assign x=>simp only [aop,Option.some.injEq,Prod.mk.injEq] at hv;rw [← hv.2];exact .refl _ _
 | pick c x y =>
  simp only [aop] at hv
  split at hv
  ·simp only [Option.some.injEq,Prod.mk.injEq] at hv;rw [← hv.2];exact .refl _ _
  ·cases hv
 | alloc t =>
  simp only [aop,aAlloc,Option.bind_eq_some_iff] at hv
  obtain ⟨z,_,hv⟩:=hv
  split at hv
  ·exact box_keep hl hv
  ·cases hv
 | box t x=>exact box_keep hl hv
 | build t parts=>exact same hv
 | buildSlice t len parts =>
  simp only [aop,aBuildSlice] at hv
  split at hv
  case h_2=>cases hv
  simp only [Option.bind_eq_some_iff] at hv
  obtain ⟨i,_,z,_,hv⟩:=hv
  split at hv
  ·cases hv
  ·simp only [Option.bind_eq_some_iff] at hv
   obtain ⟨cs,_,hv⟩:=hv
   split at hv
   ·cases hv
    exact .snoc hl _
   split at hv
   ·simp only [Option.map_eq_some_iff,Prod.mk.injEq] at hv
    obtain ⟨_,_,_,rfl⟩:=hv
    exact .refl _ _
   ·cases hv
    exact .snoc hl _
 | load t x =>
  simp only [aop] at hv
  split at hv
  ·cases hv
  ·exact same hv
 | store t p x =>
  simp only [aop] at hv
  split at hv
  ·cases hv
  rename_i hst
  simp only [Option.map_eq_some_iff,Prod.mk.injEq] at hv
  obtain ⟨_,hb,_,rfl⟩:=hv
  have e:loOf E strict (.store t p x) lo h=lo:=by simp at hst;simp [loOf,clsOf,hst]
  rw [e]
  unfold aStore at hb
  split at hb
  ·simp only [Option.bind_eq_some_iff] at hb
   obtain ⟨cs,_,hb⟩:=hb
   split at hb
   ·exact wrN_keep hb
   ·cases hb
  ·cases hb
 | nilCheck x =>
  simp only [aop] at hv
  split at hv
  ·simp only [Option.some.injEq,Prod.mk.injEq] at hv;rw [← hv.2];exact .refl _ _
  ·simp only [Option.some.injEq,Prod.mk.injEq] at hv;rw [← hv.2];exact .refl _ _
  ·simp only [Option.some.injEq,Prod.mk.injEq] at hv;rw [← hv.2];exact .refl _ _
  ·cases hv
 | binOp op t x y yt=>exact same hv
 | unOp op t x=>exact same hv
 | convert s t x=>exact same hv
 | makeFunc fn fst cap =>
  cases fn with
  | func f=>simp only [aop,Option.some.injEq,Prod.mk.injEq] at hv;rw [← hv.2];exact .refl _ _
  | _=>simp [aop] at hv
 | makeSlice t l c =>
  simp only [aop,aMakeSlice] at hv
  split at hv
  case h_2=>cases hv
  simp only [Option.bind_eq_some_iff] at hv
  obtain ⟨i,_,z,_,hv⟩:=hv
  split at hv
  ·cases hv;exact .snoc hl _
  ·cases hv
 | makeMap t r =>
  simp only [aop,aMakeMap] at hv
  split at hv
  ·cases hv;exact .snoc hl _
  ·cases hv
 | lookup t x k ok=>exact same hv
 | mapUpdate t m k x =>
  simp only [aop] at hv
  split at hv
  ·cases hv
  rename_i hst
  simp only [Option.map_eq_some_iff,Prod.mk.injEq] at hv
  obtain ⟨_,hb,_,rfl⟩:=hv
  have e:loOf E strict (.mapUpdate t m k x) lo h=lo:=by simp at hst;simp [loOf,clsOf,hst]
  rw [e];exact mapPut_keep hb
 | insert t m k x =>
  simp only [aop] at hv
  split at hv
  ·cases hv
  rename_i hst
  simp only [Option.map_eq_some_iff,Prod.mk.injEq] at hv
  obtain ⟨_,hb,_,rfl⟩:=hv
  have e:loOf E strict (.insert t m k x) lo h=lo:=by simp at hst;simp [loOf,clsOf,hst]
  rw [e];exact mapPut_keep hb
 | mapEntry t m k =>
  simp only [aop] at hv
  split at hv
  ·cases hv
  rename_i hst
  have e:loOf E strict (.mapEntry t m k) lo h=lo:=by simp at hst;simp [loOf,clsOf,hst]
  rw [e]
  unfold aMapEntry at hv
  split at hv
  ·simp only [Option.map_eq_some_iff,Prod.mk.injEq] at hv
   obtain ⟨r,hr,_,rfl⟩:=hv
   exact putEntry_keep hr
  ·cases hv
 | entryStore t m s x =>
  simp only [aop] at hv
  split at hv
  ·cases hv
  rename_i hst
  simp only [Option.map_eq_some_iff,Prod.mk.injEq] at hv
  obtain ⟨_,hb,_,rfl⟩:=hv
  have e:loOf E strict (.entryStore t m s x) lo h=lo:=by simp at hst;simp [loOf,clsOf,hst]
  rw [e]
  unfold aEntryStore at hb
  split at hb
  case h_2=>cases hb
  split at hb
  case h_2=>cases hb
  rename_i es ck hob
  split at hb
  case isFalse=>cases hb
  rename_i hlo'
  simp only [Option.bind_eq_some_iff,Option.map_eq_some_iff] at hb
  obtain ⟨_,_,_,_,rfl⟩:=hb
  exact .setMap hlo' hob (by simp)
 | slice t x l u m =>
  simp only [aop] at hv
  split at hv
  ·cases hv
  ·exact same hv
 | fieldAddr t x f=>exact same hv
 | field t x f=>exact same hv
 | indexAddr t x i=>exact same hv
 | index t x i=>exact same hv
 | extract x i =>
  simp only [aop] at hv
  split at hv
  ·exact same hv
  ·cases hv
 | call c =>
  simp only [aop] at hv
  split at hv
  ·rename_i f hcal
   unfold aCall at hv
   split at hv
   case h_2=>cases hv
   rename_i g first captured hf
   unfold retCall at hv
   split at hv
   ·simp only [Option.bind_eq_some_iff] at hv
    obtain ⟨_,_,r,_,hv⟩:=hv
    split at hv
    ·simp only [Option.some.injEq,Prod.mk.injEq] at hv;rw [← hv.2];exact .refl _ _
    ·cases hv
   ·split at hv
    ·exact same hv
    ·cases hv
   ·rename_i hm
    split at hv
    ·cases hv
    rename_i hst
    have hcls:clsOf E (.call c)=.write:=by
     unfold clsOf
     simp only [hcal]
     cases f with
     | func f0 =>
      have e1:=hfun f0
      rw [hf] at e1
      cases e1
      simp only [hm]
     | _=>rfl
    simp at hst
    have e:loOf E strict (.call c) lo h=lo:=by simp [loOf,hcls,hst]
    rw [e];exact hC _ _ _ _ _ _ hv hlo
   ·rename_i hm
    split at hv
    ·cases hv
    rename_i hst
    simp only [Option.bind_eq_some_iff,Option.map_eq_some_iff,Prod.mk.injEq] at hv
    obtain ⟨q,hq,r,hc,e1,e2⟩:=hv
    subst e1;subst e2
    have hcls:clsOf E (.call c)=.write:=by
     unfold clsOf
     simp only [hcal]
     cases f with
     | func f0 =>
      have e1:=hfun f0
      rw [hf] at e1
      cases e1
      simp only [hm]
     | _=>rfl
    simp at hst
    have e:loOf E strict (.call c) lo h=lo:=by simp [loOf,hcls,hst]
    rw [e];exact frzAll_keep hq
   ·simp only [Option.bind_eq_some_iff,Option.map_eq_some_iff,Prod.mk.injEq] at hv
    obtain ⟨r,hc,q,hq,e1,e2⟩:=hv
    subst e1;subst e2
    have e:loOf E strict (.call c) lo h≤h.length:=by unfold loOf;split <;> omega
    exact (trim_keep ((hC _ _ _ _ _ _ hc (Nat.le_refl _)).trans (freezeV_keep _ _ _ _ _ hq)) (Nat.le_refl _)).weaken e
   ·rename_i hm0 hm1 hm2 hm4 hm5
    split at hv
    ·cases hv
    rename_i hst
    simp only [Option.map_eq_some_iff,Prod.mk.injEq] at hv
    obtain ⟨r,hc,e1,e2⟩:=hv
    subst e1;subst e2
    have hcls:clsOf E (.call c)=.write:=by
     unfold clsOf
     simp only [hcal]
     cases f with
     | func f0 =>
      have e1:=hfun f0
      rw [hf] at e1
      cases e1
      simp only
     | _=>rfl
    simp at hst
    have e:loOf E strict (.call c) lo h=lo:=by simp [loOf,hcls,hst]
    rw [e];exact trim_keep (hC _ _ _ _ _ _ hc hlo) hlo
  ·rename_i b hcal
   split at hv
   ·exact same hv
   ·exact same hv
   ·have e2:loOf E strict (.call c) lo h=if strict then h.length else lo:=by
     have hcls:clsOf E (.call c)=.write:=by unfold clsOf;simp only [hcal]
     simp [loOf,hcls]
    rw [e2];exact append2_keep hlo hv
   ·split at hv
    ·cases hv
    rename_i hst
    have e:loOf E strict (.call c) lo h=lo:=by
     have hcls:clsOf E (.call c)=.write:=by unfold clsOf;simp only [hcal]
     simp at hst
     simp [loOf,hcls,hst]
    rw [e]
    unfold aCopy at hv
    split at hv
    case h_2=>cases hv
    simp only [Option.bind_eq_some_iff] at hv
    obtain ⟨s,_,new,_,hv⟩:=hv
    split at hv
    ·cases hv;exact .refl _ _
    ·split at hv
     ·split at hv
      ·simp only [Option.map_eq_some_iff] at hv
       obtain ⟨h1,hw,e⟩:=hv
       cases e
       exact wrN_keep hw
      ·cases hv
     ·cases hv
   ·split at hv
    ·cases hv
    rename_i hst
    have e:loOf E strict (.call c) lo h=lo:=by
     have hcls:clsOf E (.call c)=.write:=by unfold clsOf;simp only [hcal]
     simp at hst
     simp [loOf,hcls,hst]
    rw [e]
    unfold aClear at hv
    split at hv
    ·cases hv;exact .refl _ _
    ·split at hv
     ·cases hv;exact .refl _ _
     ·simp only [Option.bind_eq_some_iff] at hv
      obtain ⟨i,_,z,_,hv⟩:=hv
      split at hv
      ·simp only [Option.map_eq_some_iff] at hv
       obtain ⟨h1,hw,e⟩:=hv
       cases e
       exact wrN_keep hw
      ·cases hv
    ·cases hv
   ·exact same hv
   ·exact same hv
   ·cases hv
  ·cases hv
 | _=>simp [aop] at hv
theorem evalA_func (E:Env) (σ:Slots) (f:FuncId):evalA E σ (.func f)=.func (.func f) #[] #[]:=rfl
theorem runOps_keep {C:Callee} (hC:KeepC C) {lo:Nat} {ops:Array Oper}:∀ (l:List (Oper × Bool)) (σ σ':Slots) (h h':Heap),lo≤h.length→runOps E C lo ops l σ h=some (σ',h')→Keep lo h h'
 | [],σ,σ',h,h',_,hr=>by simp only [runOps,Option.some.injEq,Prod.mk.injEq] at hr;rw [← hr.2];exact .refl _ _
 | (o,st) :: l,σ,σ',h,h',hlo,hr=>by
  simp only [runOps] at hr
  split at hr
  ·simp only [Option.bind_eq_some_iff] at hr
   obtain ⟨⟨v,h1⟩,hop,hr⟩:=hr
   have k1:=(aop_keep hC hlo hop (evalA_func E σ)).weaken (lo':=lo) (by unfold loOf;split <;> omega)
   exact k1.trans (runOps_keep hC l _ _ _ _ (Nat.le_trans hlo k1.1) hr)
  ·exact runOps_keep hC l _ _ _ _ hlo hr
  ·cases hr
theorem runQ_keep {C:Callee} (hC:KeepC C) {lo:Nat} {cm:Nat × Nat} {ops:Array Oper}:∀ (l:List ((Oper × Bool) × Bool)) (σ σ':Slots) (h h':Heap),lo≤h.length→runQ E C lo cm ops l σ h=some (σ',h')→Keep lo h h'
 | [],σ,σ',h,h',_,hr=>by simp only [runQ,Option.some.injEq,Prod.mk.injEq] at hr;rw [← hr.2];exact .refl _ _
 | ((o,st),rc) :: l,σ,σ',h,h',hlo,hr=>by
  simp only [runQ] at hr
  split at hr
  ·simp only [Option.bind_eq_some_iff] at hr
   obtain ⟨⟨v,h1⟩,hop,hr⟩:=hr
   have k1:=(aop_keep hC hlo hop (evalA_func E σ)).weaken (lo':=lo) (by unfold loOf;split <;> omega)
   split at hr
   ·cases hr
   ·exact k1.trans (runQ_keep hC l _ _ _ _ (Nat.le_trans hlo k1.1) hr)
  ·exact runQ_keep hC l _ _ _ _ hlo hr
  ·cases hr
theorem runReg_keep {C:Callee} (hC:KeepC C) {f:FuncId} {lo id:Nat} {ops:Array Oper} {draw:Bool} {σ σ':Slots} {h h':Heap} (hlo:lo≤h.length) (hr:runReg E f C lo id ops draw (σ,h)=some (σ',h')):Keep lo h h':=by
 unfold runReg at hr
 split at hr
 ·obtain ⟨cm,_,hr⟩:=Option.bind_eq_some_iff.1 hr
  exact runQ_keep hC _ _ _ _ _ hlo hr
 ·exact (runOps_keep hC _ _ _ _ _ (lowF_le hlo) hr).weaken lowF_ge
def KeepB (lo:Nat) (b:Body):Prop:=∀ σ h e σ' h',lo≤h.length→b σ h=some (e,σ',h')→Keep lo h h'
theorem evG_keep {f:FuncId} {C:Callee} (hC:KeepC C) {Lp:List Nat × List Nat→Body→Body} {lo:Nat} (hL:∀ k b,KeepB lo b→KeepB lo (Lp k b)):∀ c:Code,KeepB lo (evG E f C Lp lo c):=by
 intro c
 induction c with
 | skip=>intro σ h e σ' h' _ hr;simp only [evG,Option.some.injEq,Prod.mk.injEq] at hr;rw [← hr.2.2];exact .refl _ _
 | label l=>intro σ h e σ' h' _ hr;simp only [evG,Option.some.injEq,Prod.mk.injEq] at hr;rw [← hr.2.2];exact .refl _ _
 | region id ops draw =>
  intro σ h e σ' h' hlo hr
  simp only [evG,Option.bind_eq_some_iff,Option.map_eq_some_iff,Prod.mk.injEq] at hr
  obtain ⟨⟨σ0,h0⟩,hp,⟨σ1,h1⟩,hr,_,_,rfl⟩:=hr
  have k1:=prepare_keep _ _ _ _ _ hlo hp
  exact k1.trans (runReg_keep hC (Nat.le_trans hlo k1.1) hr)
 | seq a b iha ihb =>
  intro σ h e σ' h' hlo hr
  simp only [evG,Option.bind_eq_some_iff] at hr
  obtain ⟨⟨e1,σ1,h1⟩,ha,hr⟩:=hr
  have k1:=iha _ _ _ _ _ hlo ha
  cases e1 <;> simp only [Option.some.injEq,Prod.mk.injEq] at hr
  case normal=>exact k1.trans (ihb _ _ _ _ _ (Nat.le_trans hlo k1.1) hr)
  all_goals (rw [← hr.2.2];exact k1)
 | cond c a b iha ihb =>
  intro σ h e σ' h' hlo hr
  simp only [evG] at hr
  split at hr
  ·exact iha _ _ _ _ _ hlo hr
  ·exact ihb _ _ _ _ _ hlo hr
  ·cases hr
 | block id a iha =>
  intro σ h e σ' h' hlo hr
  simp only [evG,Option.map_eq_some_iff] at hr
  obtain ⟨⟨e1,σ1,h1⟩,ha,hr⟩:=hr
  have k1:=iha _ _ _ _ _ hlo ha
  have:h1=h':=by
   cases e1 <;> simp only at hr
   case exit id' =>
    split at hr <;> simp only [Prod.mk.injEq] at hr <;> exact hr.2.2
   all_goals (simp only [Prod.mk.injEq] at hr;exact hr.2.2)
  rw [← this];exact k1
 | loop a iha=>exact hL _ _ iha
 | scope a iha =>
  intro σ h e σ' h' hlo hr
  simp only [evG,Option.bind_eq_some_iff] at hr
  obtain ⟨⟨e1,σ1,h1⟩,ha,hr⟩:=hr
  have k1:=iha _ _ _ _ _ hlo ha
  cases e1 <;> simp only [Option.some.injEq,Prod.mk.injEq,reduceCtorEq] at hr
  all_goals (rw [← hr.2.2];exact k1)
 | exit id=>intro σ h e σ' h' _ hr;simp only [evG,Option.some.injEq,Prod.mk.injEq] at hr;rw [← hr.2.2];exact .refl _ _
 | ret=>intro σ h e σ' h' _ hr;simp only [evG,Option.some.injEq,Prod.mk.injEq] at hr;rw [← hr.2.2];exact .refl _ _
 | _=>intro σ h e σ' h' _ hr;simp [evG] at hr
theorem evLoop_keep {lo:Nat} (k:List Nat × List Nat) (b:Body) (hb:KeepB lo b):∀ m,KeepB lo (evLoop m k b):=by
 intro m
 induction m with
 | zero=>intro σ h e σ' h' _ hr;simp [evLoop] at hr
 | succ m ih =>
  intro σ h e σ' h' hlo hr
  simp only [evLoop,Option.bind_eq_some_iff] at hr
  obtain ⟨⟨e1,σ1,h1⟩,ha,hr⟩:=hr
  have k1:=hb _ _ _ _ _ hlo ha
  cases e1 <;> simp only [Option.some.injEq,Prod.mk.injEq] at hr
  case normal =>
   have k2:=trim_keep (vs:=forget k.1 σ1) k1 hlo
   exact k2.trans (ih _ _ _ _ _ (Nat.le_trans hlo k2.1) hr)
  all_goals (rw [← hr.2.2];exact trim_keep k1 hlo)
theorem evBody_keep {C:Callee} (hC:KeepC C) {Lp:List Nat × List Nat→Body→Body} (hL:∀ lo k b,KeepB lo b→KeepB lo (Lp k b)):KeepC (evBody E C Lp):=by
 intro f args h lo v h' hr hlo
 simp only [evBody,Option.bind_eq_some_iff] at hr
 obtain ⟨fn,_,c,_,⟨e,σ,h1⟩,hc,hr⟩:=hr
 have k1:=evG_keep hC (hL lo) c _ _ _ _ _ hlo hc
 cases e <;> simp only [Option.map_eq_some_iff,Prod.mk.injEq,reduceCtorEq] at hr
 all_goals (obtain ⟨_,_,_,rfl⟩:=hr;exact k1)
def OrcKeep (E:Env):Prop:=∀ f g,E.orc f=some g→∀ args h lo v h',g args h lo=some (v,h')→lo≤h.length→Keep lo h h'
theorem evCall_keep (hO:OrcKeep E) {C:Callee} (hC:KeepC C) {Lp:List Nat × List Nat→Body→Body} (hL:∀ lo k b,KeepB lo b→KeepB lo (Lp k b)):KeepC (evCall E C Lp):=by
 intro f args h lo v h' hr hlo
 unfold evCall at hr
 split at hr
 ·exact hO _ _ ‹_› _ _ _ _ _ hr hlo
 ·exact evBody_keep hC hL _ _ _ _ _ _ hr hlo
theorem evF_keep (hO:OrcKeep E):∀ n,KeepC (evF E n)
 | 0=>fun f args h lo v h' hr=>by simp [evF] at hr
 | n+1=>evCall_keep hO (evF_keep hO n) fun lo k b hb=>evLoop_keep k b hb n
end
end Go.Proofs.YtplebjehcgcdeaaGreatDoor.Bm
