/-
 What is done ahead of a region: live values given up for trees, slots forgotten, an empty slice made a row that may grow. Conditions: none.
-/
import Derived.Test.YtplebjehcgcdeaaGreatDoorQU05
import Derived.WideKeyRuns
import Derived.ChangeMaps5
namespace Go.Proofs.YtplebjehcgcdeaaGreatDoor.Bm
open Go Go.RowKit
section
variable {P:Program} {E:Env} {B lo:Nat} {M M':Mem} {h h':Heap} {w w':World}
theorem atom_eq {v v':Value} (h:VRel M v v') (ha:atom v=true):v'=v:=by
 cases h <;> first | rfl | (simp [atom] at ha)
theorem flat_eq {v v':Value} (h:VRel M v v') (hf:flat v=true):v'=v:=by
 cases v with
 | agg x =>
  obtain ⟨x',rfl,hs,_,hr⟩:=h.aggSome
  have hf:x.all atom=true:=hf
  congr 1
  apply Array.ext_getElem?
  intro i
  by_cases hi:i<x.size
  ·have hi':i<x'.size:=hs ▸ hi
   have:=atom_eq (hr i x[i] x'[i] (by simp [hi]) (by simp [hi'])) (Array.all_eq_true_iff_forall_mem.1 hf _ (Array.getElem_mem hi))
   simp [hi,hi',this]
  ·have hi':¬ i<x'.size:=hs ▸ hi
   simp [hi,hi']
 | _=>exact atom_eq h hf
theorem flat_one {cs:Array Value} (hf:cs.all atom=true) (i:Nat) (u:Value) (hu:cs[i]?=some u):one u=true :=
 atom_one (Array.all_eq_true_iff_forall_mem.1 hf _ (Array.mem_of_getElem? hu))
theorem part_flat {t:TypeId} {cs:Array Value} {off:Nat} {u:Value} (hf:cs.all atom=true) (h:aPart P t cs off=some u):(part t cs off).run P w=.ok u w∧flat u=true:=by
 have hflat:flat u=true:=by
  unfold aPart at h
  split at h
  ·simp only [Option.map_eq_some_iff] at h
   obtain ⟨n,_,rfl⟩:=h
   show (cs.extract off (off+n)).all atom=true
   rw [Array.all_eq_true_iff_forall_mem] at hf ⊢
   intro x hx
   obtain ⟨i,hi,rfl⟩:=Array.mem_iff_getElem.1 hx
   rw [Array.getElem_extract]
   exact hf _ (Array.getElem_mem _)
  ·have ha:=Array.all_eq_true_iff_forall_mem.1 hf _ (Array.mem_of_getElem? h)
   cases u with
   | agg _=>simp [atom] at ha
   | _=>exact ha
  ·cases h
 have rel:∀ (i:Nat) u u',cs[i]?=some u→cs[i]?=some u'→VRel (⟨fun _=>none,fun _ _=>none⟩:Mem) u u':=by
  intro i u u' hu hu'
  rw [hu] at hu';cases hu'
  exact .atom _ (Array.all_eq_true_iff_forall_mem.1 hf _ (Array.mem_of_getElem? hu))
 obtain ⟨v',h1,h2⟩:=part_sound (w:=w) h rfl (flat_one hf) rel
 rw [flat_eq h2 hflat] at h1
 exact ⟨h1,hflat⟩
theorem check_sound (em:Bool) (d:Nat):∀ (n:Nat) (t:TypeId) (v:Value),flat v=true→keyOk P n t v=true→(Instr.checkKey em (d+n) t v).run P w=.ok () w
 | 0,_,_,_,h=>by simp [keyOk] at h
 | n+1,t,v,hf,h=>by
  rw [show d+(n+1)=(d+n)+1 from rfl,Instr.checkKey]
  unfold keyOk at h
  cases hu:P.underlying t with
  | none=>simp [hu] at h
  | some kd =>
   rw [hu] at h
   cases kd
   case int k=>cases v <;> simp only [Bool.false_eq_true] at h <;> simp [run_underlying hu]
   case string=>cases v <;> simp only [Bool.false_eq_true] at h <;> simp [run_underlying hu]
   case bool=>cases v <;> simp only [Bool.false_eq_true] at h <;> simp [run_underlying hu]
   case array len e =>
    cases v <;> simp only [Bool.false_eq_true] at h
    rename_i cs
    have hf:cs.all atom=true:=hf
    simp only [Sem.run_bind,run_underlying hu,Result.andThen_ok]
    simp only [Std.Legacy.Range.forIn_eq_forIn_range',Std.Legacy.Range.size,Nat.sub_zero,Nat.add_one_sub_one,Nat.div_one]
    rw [List.range_eq_range'] at h
    have each:=List.all_eq_true.1 h
    clear h
    generalize List.range' 0 len=is at each
    induction is with
    | nil=>simp
    | cons j is ih =>
     have hj:=each j (by simp)
     cases hs:szOf P e with
     | none=>simp [hs] at hj
     | some s =>
      simp only [hs,Option.bind_some] at hj
      cases hp:aPart P e cs (j * s) with
      | none=>simp [hp] at hj
      | some u =>
       simp only [hp,Option.any_some] at hj
       obtain ⟨p1,p2⟩:=part_flat (w:=w) hf hp
       have p3:=check_sound em d n e u p2 hj
       simp only [List.forIn_cons,Sem.run_bind,run_size hs,Result.andThen_ok,p1,p3,Sem.run_pure]
       exact ih fun y hy=>each y (by simp [hy])
   case struct fs =>
    cases v <;> simp only [Bool.false_eq_true] at h
    rename_i cs
    have hf:cs.all atom=true:=hf
    simp only [Sem.run_bind,run_underlying hu,Result.andThen_ok]
    rw [← Array.forIn_toList]
    have each:=List.all_eq_true.1 h
    clear h
    generalize fs.toList=L at each
    induction L with
    | nil=>simp
    | cons f L ih =>
     have hj:=each f (by simp)
     by_cases hn : f.name = "_"
     ·simp only [List.forIn_cons,Sem.run_bind,hn,ne_eq,not_true_eq_false,if_false,Result.andThen_ok,Sem.run_pure]
      exact ih fun y hy=>each y (by simp [hy])
     ·have hb : (f.name == "_") = false := by simp [hn]
      rw [hb,Bool.false_or] at hj
      cases hp:aPart P f.type cs f.offset with
      | none=>simp [hp] at hj
      | some u =>
       simp only [hp,Option.any_some] at hj
       obtain ⟨p1,p2⟩:=part_flat (w:=w) hf hp
       have p3:=check_sound em d n f.type u p2 hj
       simp only [List.forIn_cons,Sem.run_bind,hn,ne_eq,not_false_eq_true,if_true,Result.andThen_ok,p1,p3,Sem.run_pure]
       exact ih fun y hy=>each y (by simp [hy])
   all_goals (simp at h;done)
def ERel (M:Mem) (e e':MapEntry):Prop:=(flat e.key=true∧e'.key=e.key)∧VRel M e.val e'.val∧e'.born=e.born
def MRel (M:Mem) (es:List MapEntry) (es':Array MapEntry):Prop:=es'.size=es.length∧∀ (i:Nat) e,es[i]?=some e→∃ e',es'[i]?=some e'∧ERel M e e'
inductive LRel (M:Mem):List MapEntry→List MapEntry→Prop
 | nil:LRel M [] []
 | cons {e e':MapEntry} {l l':List MapEntry} (h:ERel M e e') (k:LRel M l l'):LRel M (e :: l) (e' :: l')
theorem lrel_of:∀ (l l':List MapEntry),l'.length=l.length→(∀ (i:Nat) e,l[i]?=some e→∃ e',l'[i]?=some e'∧ERel M e e')→LRel M l l'
 | [],[],_,_=>.nil
 | [],_ :: _,h,_=>by simp at h
 | _ :: _,[],h,_=>by simp at h
 | e :: l,e' :: l',h,k=>by
  obtain ⟨x,hx,hr⟩:=k 0 e rfl
  have:e'=x:=by simpa using hx
  subst this
  exact .cons hr (lrel_of l l' (by simpa using h) fun i y hy=>k (i+1) y (by simpa using hy))
theorem MRel.l {es:List MapEntry} {es':Array MapEntry} (h:MRel M es es'):LRel M es es'.toList :=
 lrel_of _ _ (by simpa using h.1) fun i e he=>by
  obtain ⟨e',h1,h2⟩:=h.2 i e he
  exact ⟨e',by simpa using h1,h2⟩
def FRel (M:Mem) (r r':Option (Nat × Value)):Prop:=(r=none∧r'=none)∨∃ i v v',r=some (i,v)∧r'=some (i,v')∧VRel M v v'
theorem findNow_sound {kt:TypeId} {d:TypeDesc} {k:Value} (hd:∀ a b,aKeyEq P kt a b=Instr.sameNow d a b):∀ {es es':List MapEntry},LRel M es es'→∀ {i:Nat} {r},aFind P kt k es i=some r →
  ∃ r',Instr.findNow d k es' i=some r'∧FRel M r r':=by
 intro es es' hl
 induction hl with
 | nil=>intro i r h;simp only [aFind,Option.some.injEq] at h;subst h;exact ⟨none,rfl,.inl ⟨rfl,rfl⟩⟩
 | cons he _ ih =>
  intro i r h
  simp only [aFind,Option.bind_eq_some_iff,hd] at h
  obtain ⟨b,hb,h⟩:=h
  simp only [Instr.findNow,he.1.2,hb]
  cases b with
  | true=>simp only [if_true,Option.some.injEq] at h;subst h;exact ⟨_,rfl,.inr ⟨_,_,_,rfl,rfl,he.2.1⟩⟩
  | false=>exact ih h
theorem findAsking_sound {kt:TypeId} {k:Value} (hk:flat k=true) (hd:∀ a b,aKeyEq P kt a b=aEq P Op.maxDepth kt a b):∀ {es es':List MapEntry},LRel M es es'→∀ {i:Nat} {r},aFind P kt k es i=some r →
  ∃ r',(Instr.findAsking kt k es' i).run P w=.ok r' w∧FRel M r r':=by
 intro es es' hl
 induction hl with
 | nil=>intro i r h;simp only [aFind,Option.some.injEq] at h;subst h;exact ⟨none,by simp [Instr.findAsking],.inl ⟨rfl,rfl⟩⟩
 | cons he _ ih =>
  intro i r h
  simp only [aFind,Option.bind_eq_some_iff,hd] at h
  obtain ⟨b,hb,h⟩:=h
  have hq:=eq_sound (w:=w) _ _ _ _ _ _ _ hb (VRel.of_flat (M:=M) hk) (VRel.of_flat he.1.1)
  have hq:(Op.equal kt k _).run P w=.ok b w:=hq
  rw [← he.1.2] at hq
  cases b with
  | true=>simp only [if_true,Option.some.injEq] at h;subst h;exact ⟨_,by simp [Instr.findAsking,hq],.inr ⟨_,_,_,rfl,rfl,he.2.1⟩⟩
  | false =>
   obtain ⟨r',h1,h2⟩:=ih h
   exact ⟨r',by simp [Instr.findAsking,hq,h1],h2⟩
theorem find_sound {kt:TypeId} {k:Value} (hk:flat k=true) (hok:keyOk P 4 kt k=true) {es:List MapEntry} {es':Array MapEntry} (hm:MRel M es es') {r} (h:aFind P kt k es 0=some r) :
  ∃ r',(Instr.findKey kt k es'.toList).run P w=.ok r' w∧FRel M r r':=by
 have hl:=hm.l
 unfold keyOk at hok
 cases hu:P.underlying kt with
 | none=>simp [hu] at hok
 | some d =>
  have plain:(∀ a b,aKeyEq P kt a b=Instr.sameNow d a b)→∃ r',(Instr.findKey kt k es'.toList).run P w=.ok r' w∧FRel M r r':=fun hd=>by
   obtain ⟨r',h1,h2⟩:=findNow_sound hd hl h
   exact ⟨r',by simp [Instr.findKey,run_underlying hu,h1],h2⟩
  have wide:(∀ a b,aKeyEq P kt a b=aEq P Op.maxDepth kt a b)→(match P.underlying kt with | some (.array _ _) | some (.struct _)=>true | _=>false)=true→∃ r',(Instr.findKey kt k es'.toList).run P w=.ok r' w∧FRel M r r':=fun hd hw=>by
   obtain ⟨r',h1,h2⟩:=findAsking_sound (w:=w) hk hd hl h
   exact ⟨r',by rw [run_findKey_eq w hw];exact h1,h2⟩
  rw [hu] at hok
  cases d
  case int q=>exact plain fun a b=>by simp only [aKeyEq,hu]
  case string=>exact plain fun a b=>by simp only [aKeyEq,hu]
  case bool=>exact plain fun a b=>by simp only [aKeyEq,hu]
  case array n e=>exact wide (fun a b=>by simp only [aKeyEq,hu]) (by rw [hu])
  case struct fs=>exact wide (fun a b=>by simp only [aKeyEq,hu]) (by rw [hu])
  all_goals (simp at hok;done)
theorem find_at {kt:TypeId} {k:Value}:∀ {es:List MapEntry} {j i:Nat} {v:Value},aFind P kt k es j=some (some (i,v))→j≤i∧∃ e,es[i-j]?=some e∧e.val=v
 | [],j,i,v,h=>by simp [aFind] at h
 | e :: es,j,i,v,h=>by
  simp only [aFind,Option.bind_eq_some_iff] at h
  obtain ⟨b,_,h⟩:=h
  cases b with
  | true=>simp only [if_true,Option.some.injEq,Prod.mk.injEq] at h;obtain ⟨rfl,rfl⟩:=h;exact ⟨Nat.le_refl _,e,by simp,rfl⟩
  | false =>
   obtain ⟨h1,e',h2,h3⟩:=find_at (es:=es) h
   refine ⟨by omega,e',?_,h3⟩
   rw [show i-j=(i-(j+1))+1 by omega,List.getElem?_cons_succ];exact h2
theorem zero_sound {t:TypeId} {z:Value} (h:zeroOf P t=some z):(zeroValue t).run P w=.ok z w∧flat z=true:=by
 unfold zeroOf at h
 simp only [Option.bind_eq_some_iff] at h
 obtain ⟨z',⟨i,hi,hz⟩,h⟩:=h
 split at h
 ·rename_i hf;cases h;exact ⟨by simp [zeroValue,typeInfo,hi,hz],hf⟩
 ·cases h
theorem HSim.mp' (hs:HSim E B M h w) {o ck:Nat} {l:Loc} {es:List MapEntry} (hl:M.obj o=some l) (hob:h[o]?=some (.map es ck)):l.grown=0∧∃ es':Array MapEntry,w.heap[l.blk]?=some (.map es' ck)∧MRel M es es':=by
 obtain ⟨h1,es',h2,h3,h4⟩:=hs.mp o l es ck hl hob
 exact ⟨h1,es',h2,h3,h4⟩
theorem fuel_eq:(10000:Nat)=9996+4:=rfl
theorem lookup_sound (hs:HSim E B M h w) {t:TypeId} {x x' k k' v:Value} {ok:Bool} (hv:aLookup E.P h t x k ok=some v) (hx:VRel M x x') (hk:VRel M k k') :
  ∃ v',(Instr.lookup t x' k' ok).run E.P w=.ok v' w∧VRel M v v':=by
 unfold aLookup at hv
 split at hv
 case h_2=>cases hv
 rename_i kt et hu
 split at hv
 case isFalse=>cases hv
 rename_i hc
 simp only [Bool.and_eq_true] at hc
 obtain rfl:=flat_eq hk hc.1
 simp only [Option.bind_eq_some_iff] at hv
 obtain ⟨es,he,r,hf,hv⟩:=hv
 have chk:∀ em,(Instr.checkKey em 10000 kt k').run E.P w=.ok () w:=fun em=>by rw [fuel_eq];exact check_sound em 9996 4 kt k' hc.1 hc.2
 have tup:∀ {u u':Value} (b:Bool),VRel M u u'→VRel M (.tuple #[u,.bool b]) (.tuple #[u',.bool b]):=fun {u u'} b hu=>.tuple _ _ rfl fun i a a' ha ha'=>by
  match i with
  | 0=>simp at ha ha';subst ha;subst ha';exact hu
  | 1=>simp at ha ha';subst ha;subst ha';exact .atom _ rfl
  | i+2=>simp at ha
 unfold entriesOf at he
 split at he
 ·obtain rfl:=hx.mapNone
  cases he
  simp only [aFind,Option.some.injEq] at hf
  subst hf
  simp only [Option.map_eq_some_iff] at hv
  obtain ⟨z,hz,rfl⟩:=hv
  obtain ⟨z1,z2⟩:=zero_sound (w:=w) hz
  have fk:(Instr.findKey kt k' []).run E.P w=.ok none w:=by
   cases huk:E.P.underlying kt with
   | none=>unfold keyOk at hc;simp [huk] at hc
   | some d=>simp [Instr.findKey,run_underlying huk,Instr.findNow]
  cases ok with
  | true=>exact ⟨.tuple #[z,.bool false],by simp [Instr.lookup,run_underlying hu,chk,fk,z1],tup false (VRel.of_flat z2)⟩
  | false=>exact ⟨z,by simp [Instr.lookup,run_underlying hu,chk,fk,z1],VRel.of_flat z2⟩
 ·rename_i r0
  obtain ⟨l,hl,_,rfl⟩:=hx.mapSome
  split at he
  case h_2=>cases he
  rename_i es0 ck hob
  cases he
  obtain ⟨_,es',h1,hm⟩:=hs.mp' hl hob
  obtain ⟨r',f1,f2⟩:=find_sound (w:=w) hc.1 hc.2 hm hf
  have go:(getObj l.blk).run E.P w=.ok (.map es' ck) w:=MapKept.run_getObj_map h1
  rcases f2 with ⟨rfl,rfl⟩ | ⟨i,u,u',rfl,rfl,hr⟩
  ·simp only [Option.map_eq_some_iff] at hv
   obtain ⟨z,hz,rfl⟩:=hv
   obtain ⟨z1,z2⟩:=zero_sound (w:=w) hz
   cases ok with
   | true=>exact ⟨.tuple #[z,.bool false],by simp [Instr.lookup,run_underlying hu,go,chk,f1,z1],tup false (VRel.of_flat z2)⟩
   | false=>exact ⟨z,by simp [Instr.lookup,run_underlying hu,go,chk,f1,z1],VRel.of_flat z2⟩
  ·simp only [Option.some.injEq] at hv
   subst hv
   cases ok with
   | true=>exact ⟨.tuple #[u',.bool true],by simp [Instr.lookup,run_underlying hu,go,chk,f1],tup true hr⟩
   | false=>exact ⟨u',by simp [Instr.lookup,run_underlying hu,go,chk,f1],hr⟩
 ·cases he
theorem HSim.allocMap (hs:HSim E B M h w) :
  let l:Loc:=⟨w.heap.size,0,0,0⟩
  HSim E B (M.put h.length l) (h++[.map [] 0]) (w.alloc (.map #[] 0))∧∀ lo,lo≤h.length→Evo E lo M h w (M.put h.length l) (h++[.map [] 0]) (w.alloc (.map #[] 0)):=by
 intro l
 have hnone:M.obj h.length=none:=by
  cases hm:M.obj h.length with
  | none=>rfl
  | some l=>exact absurd (hs.lt _ _ hm) (by omega)
 have hold:∀ b,b<w.heap.size→(w.alloc (.map #[] 0)).heap[b]?=w.heap[b]?:=fun b hb=>Below.heap_alloc w _ b hb
 have hnew:(w.alloc (.map #[] 0)).heap[w.heap.size]?=some (.map #[] 0):=heap_alloc_new w _
 have hsz:(w.alloc (.map #[] 0)).heap.size=w.heap.size+1:=Array.size_push _
 have hle:M.Le (M.put h.length l):=Mem.put_le fun l₀ h0=>by rw [hnone] at h0;cases h0
 constructor
 ·refine hs.change hle h.length (by rw [hsz];omega) (fun g hg=>hold g (Nat.lt_of_lt_of_le hg hs.base)) (by simp) (fun o l' ho hl'=>?_) (fun o l' ho hl' ha hr=>hold _ ((hs.dom o l' hl').2 hr).2) (fun b o v hv=>?_) (fun o l' ho hl' ha hr=>hs.sep o l' hl' ha hr) fun l' hl'=>?_
  ·rw [Mem.put_ne ho] at hl'
   exact ⟨hl',List.getElem?_append_left (hs.lt o l' hl')⟩
  ·rw [← hs.phi b o v hv]
   exact World.cell?_of_block (hold b (hs.phi_lt hv))
  ·rw [Mem.put_self] at hl';cases hl'
   refine ⟨by simp,fun _=>⟨hs.base,by rw [hsz];exact Nat.lt_succ_self _⟩,fun _ _=>⟨fun y=>?_,fun o l₂ ho hl₂ ha hr e=>?_⟩,fun t' c' g' hob=>by simp at hob,fun es ck hob=>?_⟩
   ·cases hy:(M.put h.length l).phi l.blk y with
    | none=>rfl
    | some v=>exact absurd (hs.phi_lt hy) (Nat.lt_irrefl _)
   ·have:=((hs.dom o l₂ hl₂).2 hr).2
    have e2:l.blk=w.heap.size:=rfl
    omega
   ·simp at hob
    obtain ⟨rfl,rfl⟩:=hob
    exact ⟨rfl,#[],hnew,rfl,fun i e he=>by simp at he⟩
 ·intro lo hlo
  refine ⟨rfl,rfl,rfl,fun _=>Nat.le_refl _,by rw [hsz];omega,fun b hb _=>hold b hb,by simp,fun o ho=>List.getElem?_append_left (by omega),fun o ho ⟨x,hx,hx'⟩=>⟨x,by rw [List.getElem?_append_left ho] at hx;exact hx,hx'⟩,
   fun o ho=>Mem.put_ne (by omega),hle,fun o ho hn=>by rw [Mem.put_ne (by omega)];exact hn,fun o l' ho hl' ha hr=>?_,fun b x v hv=>.inl hv⟩
  by_cases e:o=h.length
  ·subst e;rw [Mem.put_self] at hl';cases hl';exact .inl (Nat.le_refl _)
  ·rw [Mem.put_ne e] at hl'
   obtain ⟨x,hx,hx'⟩:=ha
   rw [List.getElem?_append_left (hs.lt o l' hl')] at hx
   exact .inr ⟨o,l',ho,hl',⟨x,hx,hx'⟩,hr,rfl⟩
theorem alive_setM {es es':List MapEntry} {ck ck' o o':Nat} (ho:h[o]?=some (.map es ck)):alive (h.set o (.map es' ck')) o'↔alive h o':=by
 have hlt:o<h.length:=(List.getElem?_eq_some_iff.1 ho).1
 unfold alive
 by_cases e:o'=o
 ·subst e
  rw [List.getElem?_set_self hlt]
  exact ⟨fun _=>⟨_,ho,by simp⟩,fun _=>⟨_,rfl,by simp⟩⟩
 ·rw [List.getElem?_set_ne (Ne.symm e)]
theorem HSim.putMap (hs:HSim E B M h w) {o ck ck2:Nat} {l:Loc} {es es2:List MapEntry} {es' es2':Array MapEntry} (hl:M.obj o=some l) (hob:h[o]?=some (.map es ck)) (hlo:lo≤o)
  (hb:w.heap[l.blk]?=some (.map es' ck)) (hm:MRel M es2 es2') :
  HSim E B M (h.set o (.map es2 ck2)) (ChangeMaps.setBlock w l.blk (.map es2' ck2))∧Evo E lo M h w M (h.set o (.map es2 ck2)) (ChangeMaps.setBlock w l.blk (.map es2' ck2)):=by
 obtain ⟨hg,_⟩:=hs.mp' hl hob
 have hr:l.real:=.inl hg
 have hlt:=hs.lt o l hl
 have hother:∀ k,k≠l.blk→(ChangeMaps.setBlock w l.blk (.map es2' ck2)).heap[k]?=w.heap[k]?:=fun k hk=>ChangeMaps.heap_setBlock_other hb _ hk
 have hhere:(ChangeMaps.setBlock w l.blk (.map es2' ck2)).heap[l.blk]?=some (.map es2' ck2):=ChangeMaps.heap_setBlock_same hb _
 have hsz:(ChangeMaps.setBlock w l.blk (.map es2' ck2)).heap.size=w.heap.size:=by simp [ChangeMaps.setBlock]
 have hne:∀ o₂ l₂,o₂≠o→M.obj o₂=some l₂→alive h o₂→l₂.real→l₂.blk≠l.blk:=fun o₂ l₂ h1 h2 h3 h4 e=>h1 (hs.inj o₂ o l₂ l h2 hl h3 ⟨_,hob,by simp⟩ h4 hr e)
 constructor
 ·refine hs.change (.refl M) o (by rw [hsz];exact Nat.le_refl _) (fun g hg=>hother g (Nat.ne_of_lt (Nat.lt_of_lt_of_le hg ((hs.dom o l hl).2 hr).1))) (by simp) (fun o₂ l₂ ho hl₂=>⟨hl₂,List.getElem?_set_ne (Ne.symm ho)⟩) (fun o₂ l₂ h1 h2 h3 h4=>hother _ (hne o₂ l₂ h1 h2 h3 h4)) (fun b y v hv=>?_) (fun o₂ l₂ h1 h2 h3 h4=>hs.sep o₂ l₂ h2 h3 h4) fun l₂ hl₂=>?_
  ·have:b≠l.blk:=fun e=>by
    have:=hs.sep o l hl ⟨_,hob,by simp⟩ hr y
    rw [← e,hv] at this;cases this
   rw [← hs.phi b y v hv]
   exact World.cell?_of_block (hother b this)
  ·rw [hl] at hl₂;cases hl₂
   refine ⟨by simpa using hlt,fun _=>⟨((hs.dom o l hl).2 hr).1,by rw [hsz];exact ((hs.dom o l hl).2 hr).2⟩,fun _ _=>⟨hs.sep o l hl ⟨_,hob,by simp⟩ hr,hne⟩,fun t' c' g' hob'=>(by rw [List.getElem?_set_self hlt] at hob';cases hob'),fun es3 ck3 hob'=>?_⟩
   rw [List.getElem?_set_self hlt] at hob'
   cases hob'
   exact ⟨hg,es2',hhere,hm.1,hm.2⟩
 ·refine ⟨rfl,rfl,rfl,fun _=>Nat.le_refl _,by rw [hsz];exact Nat.le_refl _,fun b _ hb'=>hother b fun e=>hb' ⟨o,l,hlo,hl,⟨_,hob,by simp⟩,hr,e.symm⟩,by simp,fun o₂ ho=>List.getElem?_set_ne (by omega),
   fun o₂ _ ha=>(alive_setM hob).1 ha,fun o₂ ho=>rfl,.refl M,fun o₂ ho hn=>hn,fun o₂ l₂ ho hl₂ ha hr₂=>?_,fun b y v hv=>.inl hv⟩
  exact .inr ⟨o₂,l₂,ho,hl₂,(alive_setM hob).1 ha,hr₂,rfl⟩
theorem makeMap_sound (hs:HSim E B M h w) (hlo:lo≤h.length) {t:TypeId} {r r':Option Value} {v:Value} {h':Heap} (hv:aMakeMap h r=some (v,h')) (hr:ORel M r r') :
  ∃ v' w',(Instr.makeMap t r').run E.P w=.ok v' w'∧Out E B lo M h w v h' v' w':=by
 unfold aMakeMap at hv
 split at hv
 case h_2=>cases hv
 cases hv
 rcases hr with ⟨_,rfl⟩ | ⟨_,_,hc,_⟩
 ·obtain ⟨h1,h2⟩:=hs.allocMap
  exact ⟨.map (some w.heap.size),_,by simp [Instr.makeMap],_,.map _ _ Mem.put_self rfl,h1,h2 lo hlo⟩
 ·cases hc
theorem mrel_set {es:List MapEntry} {es':Array MapEntry} (hm:MRel M es es') {i:Nat} {e:MapEntry} (he:es[i]?=some e) {k u u':Value} (hk:flat k=true) (hu:VRel M u u') :
  MRel M (es.set i ⟨k,u,e.born⟩) (es'.modify i fun e=>{ e with key:=k,val:=u' }):=by
 refine ⟨by simp [hm.1],fun j x hx=>?_⟩
 obtain ⟨e',h1,h2⟩:=hm.2 i e he
 by_cases hj:i=j
 ·subst hj
  have hlt:i<es.length:=(List.getElem?_eq_some_iff.1 he).1
  rw [List.getElem?_set_self hlt] at hx
  cases hx
  exact ⟨{ e' with key:=k,val:=u' },by simp [Array.getElem?_modify,h1],⟨hk,rfl⟩,hu,h2.2.2⟩
 ·rw [List.getElem?_set_ne hj] at hx
  obtain ⟨x',k1,k2⟩:=hm.2 j x hx
  exact ⟨x',by simp [Array.getElem?_modify,hj,k1],k2⟩
theorem mrel_push {es:List MapEntry} {es':Array MapEntry} (hm:MRel M es es') {k u u':Value} {ck:Nat} (hk:flat k=true) (hu:VRel M u u') :
  MRel M (es++[⟨k,u,ck⟩]) (es'.push ⟨k,u',ck⟩):=by
 refine ⟨by simp [hm.1],fun j x hx=>?_⟩
 by_cases hj:j<es.length
 ·rw [List.getElem?_append_left hj] at hx
  obtain ⟨x',k1,k2⟩:=hm.2 j x hx
  exact ⟨x',by rw [Array.getElem?_push_lt (hm.1 ▸ hj)];rw [← k1];simp,k2⟩
 ·have hj2:j=es.length:=by
   have:=(List.getElem?_eq_some_iff.1 hx).1
   simp at this;omega
  subst hj2
  simp at hx
  subst hx
  exact ⟨⟨k,u',ck⟩,by rw [← hm.1];simp,⟨hk,rfl⟩,hu,rfl⟩
theorem stays_sound {k:Value} {e':MapEntry} (hb:Instr.sameBits 10000 e'.key k=true):(Instr.keyThatStays e'.key k).run P w=.ok k w:=by
 simp [Instr.keyThatStays,hb]
theorem mapPut_sound (hs:HSim E B M h w) {t:TypeId} {m m' k k' x x':Value} {h':Heap} (hv:aMapPut E.P h lo t m k x=some h') (hm:VRel M m m') (hk:VRel M k k') (hx:VRel M x x') :
  ∃ w',(Instr.mapUpdate t m' k' x').run E.P w=.ok () w'∧HSim E B M h' w'∧Evo E lo M h w M h' w':=by
 unfold aMapPut putEntry at hv
 split at hv
 case h_2=>cases hv
 rename_i kt et hu
 simp only [Option.map_eq_some_iff] at hv
 obtain ⟨r,hv,rfl⟩:=hv
 split at hv
 case h_2=>cases hv
 rename_i o
 obtain ⟨l,hl,_,rfl⟩:=hm.mapSome
 split at hv
 case h_2=>cases hv
 rename_i es ck hob
 split at hv
 case isFalse=>cases hv
 rename_i hc
 obtain ⟨hlo,hf,hok⟩:=hc
 obtain rfl:=flat_eq hk hf
 obtain ⟨_,es',hb,hmr⟩:=hs.mp' hl hob
 have go:(getObj l.blk).run E.P w=.ok (.map es' ck) w:=MapKept.run_getObj_map hb
 have chk:(Instr.checkKey false 10000 kt k').run E.P w=.ok () w:=by rw [fuel_eq];exact check_sound false 9996 4 kt k' hf hok
 simp only [Option.bind_eq_some_iff] at hv
 obtain ⟨q,hq,hv⟩:=hv
 obtain ⟨q',f1,f2⟩:=find_sound (w:=w) hf hok hmr hq
 rcases f2 with ⟨rfl,rfl⟩ | ⟨i,u,u',rfl,rfl,hr⟩
 ·simp only [Option.map_some,Option.some.injEq] at hv
  subst hv
  obtain ⟨p1,p2⟩:=hs.putMap (lo:=lo) (ck2:=ck+1) hl hob hlo hb (mrel_push hmr (ck:=ck) hf hx)
  exact ⟨_,by simp [Instr.mapUpdate,run_underlying hu,go,chk,f1,MapKept.run_setObj_map _ hb];rfl,p1,p2⟩
 ·simp only [Option.bind_eq_some_iff] at hv
  obtain ⟨e,he,hv⟩:=hv
  split at hv
  case isFalse=>cases hv
  rename_i hsb
  cases hv
  obtain ⟨e',e1,e2⟩:=hmr.2 i e he
  rw [← e2.1.2] at hsb
  obtain ⟨p1,p2⟩:=hs.putMap (lo:=lo) (ck2:=ck) hl hob hlo hb (mrel_set hmr he hf hx)
  exact ⟨_,by simp [Instr.mapUpdate,run_underlying hu,go,chk,f1,e1,stays_sound hsb,MapKept.run_setObj_map _ hb];rfl,p1,p2⟩
theorem tup2 {u u':Value} {n:Int} (hu:VRel M u u'):VRel M (.tuple #[u,.int .i64 n]) (.tuple #[u',.int .i64 n]):=.tuple _ _ rfl fun i a a' ha ha'=>by
  match i with
  | 0=>simp at ha ha';subst ha;subst ha';exact hu
  | 1=>simp at ha ha';subst ha;subst ha';exact .atom _ rfl
  | i+2=>simp at ha
theorem mapEntry_sound (hs:HSim E B M h w) {t:TypeId} {m m' k k' v:Value} {h':Heap} (hv:aMapEntry E.P h lo t m k=some (v,h')) (hm:VRel M m m') (hk:VRel M k k') :
  ∃ v' w',(Instr.mapEntry t m' k').run E.P w=.ok v' w'∧Out E B lo M h w v h' v' w':=by
 unfold aMapEntry putEntry at hv
 split at hv
 case h_2=>cases hv
 rename_i kt et hu
 simp only [Option.map_eq_some_iff,Prod.mk.injEq] at hv
 obtain ⟨r,hv,rfl,rfl⟩:=hv
 split at hv
 case h_2=>cases hv
 rename_i o
 obtain ⟨l,hl,_,rfl⟩:=hm.mapSome
 split at hv
 case h_2=>cases hv
 rename_i es ck hob
 split at hv
 case isFalse=>cases hv
 rename_i hc
 obtain ⟨hlo,hf,hok⟩:=hc
 obtain rfl:=flat_eq hk hf
 obtain ⟨_,es',hb,hmr⟩:=hs.mp' hl hob
 have go:(getObj l.blk).run E.P w=.ok (.map es' ck) w:=MapKept.run_getObj_map hb
 have chk:(Instr.checkKey false 10000 kt k').run E.P w=.ok () w:=by rw [fuel_eq];exact check_sound false 9996 4 kt k' hf hok
 simp only [Option.bind_eq_some_iff] at hv
 obtain ⟨q,hq,hv⟩:=hv
 obtain ⟨q',f1,f2⟩:=find_sound (w:=w) hf hok hmr hq
 rcases f2 with ⟨rfl,rfl⟩ | ⟨i,u,u',rfl,rfl,hr⟩
 ·simp only [Option.map_eq_some_iff] at hv
  obtain ⟨z,hz,rfl⟩:=hv
  obtain ⟨z1,z2⟩:=zero_sound (w:=w) hz
  obtain ⟨p1,p2⟩:=hs.putMap (lo:=lo) (ck2:=ck+1) hl hob hlo hb (mrel_push hmr (ck:=ck) hf (VRel.of_flat z2))
  exact ⟨.tuple #[z,.int .i64 ck],_,by simp [Instr.mapEntry,run_underlying hu,go,chk,f1,z1,goInt,MapKept.run_setObj_map _ hb];rfl,M,tup2 (VRel.of_flat z2),p1,p2⟩
 ·simp only [Option.bind_eq_some_iff] at hv
  obtain ⟨e,he,hv⟩:=hv
  split at hv
  case isFalse=>cases hv
  rename_i hsb
  cases hv
  obtain ⟨e',e1,e2⟩:=hmr.2 i e he
  obtain ⟨_,e0,f3,f4⟩:=find_at hq
  have:e=e0:=by
   rw [Nat.sub_zero,he] at f3
   exact Option.some.inj f3
  subst this
  subst f4
  rw [← e2.1.2] at hsb
  have hmr2:MRel M (es.set i ⟨k',e.val,e.born⟩) (es'.modify i fun x=>{ x with key:=k' }):=by
   have:=mrel_set hmr he hf e2.2.1
   refine ⟨by simpa using this.1,fun j x hx=>?_⟩
   obtain ⟨y,y1,y2⟩:=this.2 j x hx
   refine ⟨y,?_,y2⟩
   rw [← y1]
   simp only [Array.getElem?_modify]
   by_cases hj:i=j
   ·subst hj;simp [e1]
   ·simp [hj]
  obtain ⟨p1,p2⟩:=hs.putMap (lo:=lo) (ck2:=ck) hl hob hlo hb hmr2
  exact ⟨.tuple #[u',.int .i64 e.born],_,by simp [Instr.mapEntry,run_underlying hu,go,chk,f1,e1,e2.2.2,goInt,stays_sound hsb,MapKept.run_setObj_map _ hb];rfl,M,tup2 hr,p1,p2⟩
theorem findIdx_rel {n:Int}:∀ {es es':List MapEntry},LRel M es es'→(es'.findIdx? fun e=>(e.born:Int) == n)=es.findIdx? fun e=>(e.born:Int) == n:=by
 intro es es' hl
 induction hl with
 | nil=>rfl
 | cons he _ ih=>simp only [List.findIdx?_cons,he.2.2,ih]
theorem entryStore_sound (hs:HSim E B M h w) {t:TypeId} {m m' s s' x x':Value} {h':Heap} (hv:aEntryStore h lo m s x=some h') (hm:VRel M m m') (hsr:VRel M s s') (hx:VRel M x x') :
  ∃ w',(Instr.entryStore t m' s' x').run E.P w=.ok () w'∧HSim E B M h' w'∧Evo E lo M h w M h' w':=by
 unfold aEntryStore at hv
 split at hv
 case h_2=>cases hv
 rename_i o n
 obtain rfl:=hsr.int
 obtain ⟨l,hl,_,rfl⟩:=hm.mapSome
 split at hv
 case h_2=>cases hv
 rename_i es ck hob
 split at hv
 case isFalse=>cases hv
 rename_i hlo
 simp only [Option.bind_eq_some_iff,Option.map_eq_some_iff] at hv
 obtain ⟨i,hi,e,he,rfl⟩:=hv
 obtain ⟨_,es',hb,hmr⟩:=hs.mp' hl hob
 have go:(getObj l.blk).run E.P w=.ok (.map es' ck) w:=MapKept.run_getObj_map hb
 have hi':(es'.findIdx? fun e=>(e.born:Int) == n)=some i:=by
  obtain ⟨el⟩:=es'
  rw [← hi,← findIdx_rel hmr.l];simp
 obtain ⟨e',e1,e2⟩:=hmr.2 i e he
 have hmr2:MRel M (es.set i ⟨e.key,x,e.born⟩) (es'.modify i fun y=>{ y with val:=x' }):=by
  have:=mrel_set hmr he e2.1.1 hx
  refine ⟨by simpa using this.1,fun j z hz=>?_⟩
  obtain ⟨y,y1,y2⟩:=this.2 j z hz
  refine ⟨y,?_,y2⟩
  rw [← y1]
  simp only [Array.getElem?_modify]
  by_cases hj:i=j
  ·subst hj;simp [e1,e2.1.2]
  ·simp [hj]
 obtain ⟨p1,p2⟩:=hs.putMap (lo:=lo) (ck2:=ck) hl hob hlo hb hmr2
 exact ⟨_,by simp [Instr.entryStore,go,asInt,asIntOf,hi',MapKept.run_setObj_map _ hb];rfl,p1,p2⟩
end
end Go.Proofs.YtplebjehcgcdeaaGreatDoor.Bm
namespace Go.Proofs.YtplebjehcgcdeaaGreatDoor.Bm
open Go Go.RowKit
section
variable {E:Env} {B lo:Nat} {M:Mem} {h:Heap} {w:World}
theorem mapM_some {α β:Type} {f:α→Option β}:∀ {l:List α} {r:List β},l.mapM f=some r→r.length=l.length∧∀ (i:Nat) x,l[i]?=some x→∃ y,r[i]?=some y∧f x=some y
 | [],r,h=>by simp at h;subst h;simp
 | a :: l,r,h=>by
  simp only [List.mapM_cons,bind,Option.bind_eq_some_iff,pure,Option.some.injEq] at h
  obtain ⟨y,hy,r',hr',rfl⟩:=h
  obtain ⟨h1,h2⟩:=mapM_some hr'
  refine ⟨by simp [h1],fun i x hx=>?_⟩
  cases i with
  | zero=>simp at hx;subst hx;exact ⟨y,by simp,hy⟩
  | succ i=>obtain ⟨z,h3,h4⟩:=h2 i x (by simpa using hx);exact ⟨z,by simpa using h3,h4⟩
structure Still (M:Mem) (h:Heap) (w:World) (Ψ:Phi):Prop where
 phi:∀ b o v,M.phi b o=some v→Ψ b o=some v
 obj:∀ o l,M.obj o=some l→alive h o→l.real→∀ x v,w.cell? ⟨l.blk,x,none⟩=some v→Ψ l.blk x=some v
theorem reify_one {P:Program} {n:Nat} {v u:Value} (hr:reify P n h v=some u) (h1:one v=true):one u=true:=by
 cases n with
 | zero=>simp [reify] at hr
 | succ n =>
  unfold reify at hr
  split at hr
  ·split at hr
   ·split at hr
    ·simp only [Option.bind_eq_some_iff] at hr
     obtain ⟨cs,_,hr⟩:=hr
     split at hr <;> first | (cases hr;rfl) | (cases hr;done)
    ·cases hr
   ·cases hr
  ·split at hr
   ·cases hr;rfl
   ·split at hr
    ·simp only [Option.bind_eq_some_iff] at hr
     obtain ⟨s,_,hr⟩:=hr
     split at hr
     ·simp only [Option.bind_eq_some_iff,Option.map_eq_some_iff] at hr
      obtain ⟨_,_,_,_,rfl⟩:=hr;rfl
     ·cases hr
    ·cases hr
  ·cases hr
  ·cases hr
  ·simp [one] at h1
  ·cases hr;rfl
  ·simp only [Option.bind_eq_some_iff,Option.map_eq_some_iff] at hr
   obtain ⟨_,_,_,_,rfl⟩:=hr;rfl
  ·cases hr
  ·simp only [Option.map_eq_some_iff] at hr
   obtain ⟨_,_,rfl⟩:=hr;rfl
  ·cases hr;exact h1
theorem HSim.row (hs:HSim E B M h w) {a a':Addr} {l:Loc} {t:TypeId} {c:List Value} {g:Nat} (hp:Place M a a') (hl:M.obj a.block=some l) (hob:h[a.block]?=some (.cells t c g)) (hst:stampOk a.spot g c.length=true) (hr:l.real) :
  a'=⟨l.blk,l.off+a.off,none⟩∧∀ j v,c[j]?=some v→one v=true∧∃ v',w.cell? ⟨l.blk,l.off+j,none⟩=some v'∧VRel M v v':=by
 obtain ⟨hg,hlen,_,hre⟩:=hs.obj _ l t c g hl hob
 obtain ⟨cs0,ty,hb,_,_,hc⟩:=hre hr
 refine ⟨place_at hp hl hg hlen hst,fun j v hv=>?_⟩
 obtain ⟨h1,v',h2,h3⟩:=hc j v hv
 exact ⟨h1,v',by simpa [World.cell?,hb] using h2,h3⟩
theorem reify_sound (hs:HSim E B M h w) {Ψ:Phi} (st:Still M h w Ψ):∀ (n:Nat) (v v' u:Value),reify E.P n h v=some u→VRel M v v'→TRel Ψ u v'
 | 0,v,v',u,hr,_=>by simp [reify] at hr
 | n+1,v,v',u,hr,hv=>by
  have cellsR:∀ {c cs:List Value},(if c.all (settled depth) then some c else c.mapM (reify E.P n h))=some cs →
    cs.length=c.length∧((∀ (j:Nat) x,c[j]?=some x→one x=true)→∀ (j:Nat) x,cs[j]?=some x→one x=true)∧∀ (j:Nat) x,cs[j]?=some x→∃ y,c[j]?=some y∧∀ y',VRel M y y'→TRel Ψ x y':=by
   intro c cs hc
   split at hc
   ·rename_i hset
    cases hc
    exact ⟨rfl,fun h1=>h1,fun j x hx=>⟨x,hx,fun y' hy=>(hy.settle (List.all_eq_true.1 hset x (List.mem_of_getElem? hx))).mono st.phi⟩⟩
   ·obtain ⟨q1,q2⟩:=mapM_some hc
    have q3:∀ (j:Nat) x,cs[j]?=some x→∃ y,c[j]?=some y∧reify E.P n h y=some x:=by
     intro j x hx
     have hj:j<c.length:=by rw [← q1];exact (List.getElem?_eq_some_iff.1 hx).1
     obtain ⟨z,hz,hz'⟩:=q2 j c[j] (List.getElem?_eq_getElem hj)
     rw [hx] at hz;cases hz
     exact ⟨c[j],List.getElem?_eq_getElem hj,hz'⟩
    refine ⟨q1,fun h1 j x hx=>?_,fun j x hx=>?_⟩
    ·obtain ⟨y,hy,hyx⟩:=q3 j x hx
     exact reify_one hyx (h1 j y hy)
    ·obtain ⟨y,hy,hyx⟩:=q3 j x hx
     exact ⟨y,hy,fun y' hv=>reify_sound hs st n y y' x hyx hv⟩
  unfold reify at hr
  split at hr
  ·rename_i a
   split at hr
   case h_2=>cases hr
   rename_i t c hob
   split at hr
   case isFalse=>cases hr
   rename_i hcond
   obtain ⟨hoff,hsp,hsz⟩:=hcond
   simp only [Option.bind_eq_some_iff] at hr
   obtain ⟨cs,hcs,hr⟩:=hr
   obtain ⟨a',rfl,hp⟩:=hv.ptrSome
   obtain ⟨l,hl,hl2⟩:=id hp
   rw [hsp] at hl2
   have hreal:l.real:=.inl hl2.1
   obtain ⟨ha,hrow⟩:=hs.row hp hl hob (by rw [hsp];rfl) hreal
   obtain ⟨k1,k2,k3⟩:=cellsR hcs
   have k2:=k2 fun j x hx=>(hrow j x hx).1
   have hat:∀ (j:Nat) x,cs[j]?=some x→one x=true∧Ψ l.blk (l.off+j)=some ((w.cell? ⟨l.blk,l.off+j,none⟩).getD undef)∧TRel Ψ x ((w.cell? ⟨l.blk,l.off+j,none⟩).getD undef):=by
    intro j x hx
    obtain ⟨y,hy,hyx⟩:=k3 j x hx
    obtain ⟨_,y',hy1,hy2⟩:=hrow j y hy
    rw [hy1]
    exact ⟨k2 j x hx,st.obj _ l hl ⟨_,hob,by simp⟩ hreal _ _ hy1,hyx y' hy2⟩
   rw [hoff] at ha
   subst ha
   split at hr
   ·cases hr
    exact cptr_mk (f:=fun j=>(w.cell? ⟨l.blk,l.off+j,none⟩).getD undef) rfl (fun j x hx=>⟨(hat j x (by simpa [cellsL] using hx)).1,(hat j x (by simpa [cellsL] using hx)).2.1⟩) fun j x hx=>(hat j x (by simpa [cellsL] using hx)).2.2
   ·cases hr
    have hcl:=one_cells (hat 0 _ rfl).1
    exact cptr_mk (f:=fun j=>(w.cell? ⟨l.blk,l.off+j,none⟩).getD undef) rfl (fun j y hy=>by rw [hcl] at hy;exact ⟨(hat j y hy).1,(hat j y hy).2.1⟩) fun j y hy=>by rw [hcl] at hy;exact (hat j y hy).2.2
   ·cases hr
  ·rename_i a len cap
   split at hr
   ·rename_i h0
    cases hr
    subst h0
    rcases hv.sliceSome with ⟨a',c',rfl,_⟩ | ⟨rfl,_⟩
    ·exact TRel.lst 0 (by decide) [] a' c' 0 (fun _ _=>undef) (Nat.zero_le _) (by simp) (.inl rfl) (fun i v hv=>by simp at hv) fun i v hv=>by simp at hv
    ·exact .lnil 0 (by decide)
   ·rename_i h0
    split at hr
    case h_2=>cases hr
    rename_i t c g hob
    simp only [Option.bind_eq_some_iff] at hr
    obtain ⟨s,hsz,hr⟩:=hr
    split at hr
    case isFalse=>cases hr
    rename_i hcond
    obtain ⟨hst,hspos,hle⟩:=hcond
    simp only [Option.bind_eq_some_iff,Option.map_eq_some_iff] at hr
    obtain ⟨cs,hcs,el,hel,rfl⟩:=hr
    rcases hv.sliceSome with ⟨a',cap',rfl,hlc,hcr⟩ | ⟨_,hz,_⟩
    case inr=>exact absurd hz h0
    have hp:=capRel_place hcr (by omega)
    obtain ⟨l,hl,hl2⟩:=id hcr
    obtain ⟨hg,hlen,hnr,hre⟩:=hs.obj _ l t c g hl hob
    have hfit:len≤cap':=by
     cases hsp:a.spot with
     | none=>rw [hsp] at hl2;omega
     | some k =>
      rw [hsp] at hl2
      rw [hsp] at hst
      unfold stampOk at hst
      split at hst
      ·simp_all
      ·rename_i e;cases e
       have:=(hl2.2.2 ((hlen (by omega)).trans (beq_iff_eq.1 hst).symm)).1
       omega
      ·cases hst
    have hcl:((c.drop a.off).take (len * s)).length=len * s:=by simp;omega
    by_cases hreal:l.real
    ·obtain ⟨rfl,hrow⟩:=hs.row hp hl hob hst hreal
     have hget:∀ (j:Nat) x,((c.drop a.off).take (len * s))[j]?=some x→c[a.off+j]?=some x:=by
      intro j x hx
      simp only [List.getElem?_take,List.getElem?_drop] at hx
      split at hx
      ·exact hx
      ·cases hx
     obtain ⟨k1,k2,k3⟩:=cellsR hcs
     have k2:=k2 fun j x hx=>(hrow _ x (hget j x hx)).1
     have hat:∀ (j:Nat) x,cs[j]?=some x→Ψ l.blk (l.off+a.off+j)=some ((w.cell? ⟨l.blk,l.off+a.off+j,none⟩).getD undef)∧TRel Ψ x ((w.cell? ⟨l.blk,l.off+a.off+j,none⟩).getD undef):=by
      intro j x hx
      obtain ⟨y,hy,hyx⟩:=k3 j x hx
      obtain ⟨_,y',hy1,hy2⟩:=hrow _ y (hget j y hy)
      rw [← Nat.add_assoc] at hy1
      rw [hy1]
      exact ⟨st.obj _ l hl ⟨_,hob,by simp⟩ hreal _ _ hy1,hyx y' hy2⟩
     refine elems_lst (cs':=(List.range cs.length).map fun j=>(w.cell? ⟨l.blk,l.off+a.off+j,none⟩).getD undef) (by decide) hel hsz (by rw [k1,hcl]) rfl hfit (fun e=>by simp at e) k2 (fun j v v' hv hv'=>?_) (by simp) fun j v hv=>?_
     ·have hj:=(List.getElem?_eq_some_iff.1 hv).1
      simp [hj] at hv'
      subst hv';exact (hat j v hv).2
     ·have hj:j<cs.length:=by
       have:=(List.getElem?_eq_some_iff.1 hv).1;simpa using this
      simp [hj] at hv
      subst hv;exact (hat j _ (List.getElem?_eq_getElem hj)).1
    ·have hc0:=hnr hreal
     subst hc0
     have:0<len * s:=Nat.mul_pos (by omega) hspos
     simp only [List.length_nil] at hle
     omega
  ·cases hr
  ·cases hr
  ·rename_i c
   simp only [Option.map_eq_some_iff] at hr
   obtain ⟨cs,hcs,rfl⟩:=hr
   obtain ⟨x',rfl,hx,h1,h2⟩:=hv.aggSome
   obtain ⟨k1,k2,k3⟩:=cellsR hcs
   have k2:=k2 fun j x hx=>h1 j x (by simpa using hx)
   refine .agg _ _ (by simpa [k1] using hx) (fun j x hx=>k2 j x (by simpa using hx)) fun j x y hx hy=>?_
   obtain ⟨z,hz,hzx⟩:=k3 j x (by simpa using hx)
   exact hzx y (h2 j z y (by simpa using hz) hy)
  ·cases hr
   exact hv.treeSome.mono st.phi
  ·rename_i f x y hny
   simp only [Option.bind_eq_some_iff,Option.map_eq_some_iff] at hr
   obtain ⟨xs,hxs,ys,hys,rfl⟩:=hr
   cases hv with
   | atom _ h=>simp [Bm.atom] at h
   | tree n _ _ _ h=>exact (hny _ rfl).elim
   | func fn _ x' _ y' hx hy hk1 hk2 =>
    obtain ⟨a1,_,a3⟩:=cellsR hxs
    obtain ⟨b1,_,b3⟩:=cellsR hys
    refine .func fn _ x' _ y' (by simpa [a1] using hx) (by simpa [b1] using hy) (fun j p q hp hq=>?_) fun j p q hp hq=>?_
    ·obtain ⟨z,hz,hzx⟩:=a3 j p (by simpa using hp)
     exact hzx q (hk1 j z q (by simpa using hz) hq)
    ·obtain ⟨z,hz,hzx⟩:=b3 j p (by simpa using hp)
     exact hzx q (hk2 j z q (by simpa using hz) hq)
  ·cases hr
  ·rename_i t v
   simp only [Option.map_eq_some_iff] at hr
   obtain ⟨u0,hu0,rfl⟩:=hr
   cases hv with
   | atom _ h=>simp [Bm.atom] at h
   | iface _ _ v' h=>exact .iface t _ _ (reify_sound hs st n _ _ _ hu0 h)
  ·cases hv with
   | atom _ h=>cases hr;exact .atom _ h
   | func f x _ y _ =>
    obtain ⟨x⟩:=x
    obtain ⟨y⟩:=y
    simp_all
   | agg x _ =>
    obtain ⟨x⟩:=x
    simp_all
   | _=>simp_all
end
end Go.Proofs.YtplebjehcgcdeaaGreatDoor.Bm
namespace Go.Proofs.YtplebjehcgcdeaaGreatDoor.Bm
open Go Go.RowKit
section
variable {E:Env} {B lo:Nat} {M:Mem} {h:Heap} {w:World}
theorem freeze_one {P:Program} {n:Nat} {h h':Heap} {v u:Value} (hr:freezeV P n lo h v=some (u,h')) (h1:one v=true):one u=true:=by
 cases n with
 | zero=>simp [freezeV] at hr
 | succ n =>
  unfold freezeV at hr
  split at hr
  ·split at hr
   ·split at hr
    ·simp only [Option.bind_eq_some_iff] at hr
     obtain ⟨cs,_,hr⟩:=hr
     split at hr <;> first | (cases hr;rfl) | (cases hr;done)
    ·cases hr
   ·cases hr
  ·split at hr
   ·cases hr;rfl
   ·split at hr
    ·simp only [Option.bind_eq_some_iff] at hr
     obtain ⟨s,_,hr⟩:=hr
     split at hr
     ·simp only [Option.bind_eq_some_iff,Option.map_eq_some_iff] at hr
      obtain ⟨_,_,_,_,e⟩:=hr;cases e;rfl
     ·cases hr
    ·cases hr
  ·simp [one] at h1
  ·split at hr
   ·cases hr;exact h1
   ·cases hr
def FrzOk (E:Env) (B lo:Nat) (f:Heap→Value→Option (Value × Heap)):Prop :=
 ∀ h v u h',f h v=some (u,h')→∀ M w v',HSim E B M h w→VRel M v v'→∃ M',HSim E B M' h' w∧Evo E lo M h w M' h' w∧TRel M'.phi u v'
theorem frz_all {f:Heap→Value→Option (Value × Heap)} (hf:FrzOk E B lo f) (w:World):∀ (c:List Value) (acc:List Value) (h:Heap) (r:List Value × Heap),
  c.foldlM (init:=(acc,h)) (fun r x=>(f r.2 x).map fun y=>(r.1++[y.1],y.2))=some r→∀ M (c':List Value),HSim E B M h w→VRels M c c' →
  ∃ M' cs,r.1=acc++cs∧HSim E B M' r.2 w∧Evo E lo M h w M' r.2 w∧cs.length=c.length∧(∀ (j:Nat) x x',cs[j]?=some x→c'[j]?=some x'→TRel M'.phi x x') ∧
   ∀ (j:Nat) x y,c[j]?=some x→cs[j]?=some y→∃ h1 h2,f h1 x=some (y,h2)
 | [],acc,h,r,hr,M,c',hs,hv=>by
  simp at hr;subst hr
  exact ⟨M,[],by simp,hs,Evo.refl hs lo,rfl,fun j x x' hx=>by simp at hx,fun j x y hx=>by simp at hx⟩
 | x :: c,acc,h,r,hr,M,c',hs,hv=>by
  simp only [List.foldlM_cons,bind,Option.bind_eq_some_iff,Option.map_eq_some_iff] at hr
  obtain ⟨_,⟨⟨y,h1⟩,hy,rfl⟩,hr⟩:=hr
  obtain ⟨x',hx',hxr⟩:=hv.get (i:=0) rfl
  cases c' with
  | nil=>simp at hx'
  | cons z c' =>
   simp at hx';subst hx'
   obtain ⟨M1,q1,q2,q3⟩:=hf _ _ _ _ hy M w _ hs hxr
   have hv':VRels M1 c c':=⟨by simpa using hv.1,fun i u u' hu hu'=>(hv.2 (i+1) u u' (by simpa using hu) (by simpa using hu')).mono q2.le⟩
   obtain ⟨M2,cs,r1,r2,r3,r4,r5,r6⟩:=frz_all hf w c _ _ _ hr M1 c' q1 hv'
   refine ⟨M2,y :: cs,by rw [r1];simp,r2,q2.trans r3,by simp [r4],fun j a a' ha ha'=>?_,fun j a b ha hb=>?_⟩
   ·cases j with
    | zero=>simp at ha ha';subst ha;subst ha';exact q3.mono r3.le.phi
    | succ j=>exact r5 j a a' (by simpa using ha) (by simpa using ha')
   ·cases j with
    | zero=>simp at ha hb;subst ha;subst hb;exact ⟨_,_,hy⟩
    | succ j=>exact r6 j a b (by simpa using ha) (by simpa using hb)
theorem freezeV_ok:∀ n,FrzOk E B lo (fun h v=>freezeV E.P n lo h v)
 | 0=>fun h v u h' hr=>by simp [freezeV] at hr
 | n+1=>by
  have ih:=freezeV_ok n
  intro h v u h' hr M w v' hs hv
  have all:∀ {c:List Value} {h:Heap} {r:List Value × Heap} {M:Mem} {c':List Value},(if c.all (settled depth) then some (c,h) else
    c.foldlM (init:=([],h)) fun r x=>(freezeV E.P n lo r.2 x).map fun y=>(r.1++[y.1],y.2))=some r→HSim E B M h w→VRels M c c' →
    ∃ M',HSim E B M' r.2 w∧Evo E lo M h w M' r.2 w∧r.1.length=c.length∧(∀ (j:Nat) x x',r.1[j]?=some x→c'[j]?=some x'→TRel M'.phi x x') ∧
     ((∀ (j:Nat) x,c[j]?=some x→one x=true)→∀ (j:Nat) x,r.1[j]?=some x→one x=true):=by
   intro c h r M c' hr hs hv
   split at hr
   ·rename_i hset
    cases hr
    exact ⟨M,hs,Evo.refl hs lo,rfl,fun j x x' hx hx'=>(hv.2 j x x' hx hx').settle (List.all_eq_true.1 hset x (List.mem_of_getElem? hx)),fun h1=>h1⟩
   ·obtain ⟨M',cs,q1,q2,q3,q4,q5,q6⟩:=frz_all ih w c [] h r hr M c' hs hv
    simp at q1
    rw [q1]
    refine ⟨M',q2,q3,q4,q5,fun h1 j x hx=>?_⟩
    have hj:j<c.length:=by rw [← q4];exact (List.getElem?_eq_some_iff.1 hx).1
    obtain ⟨_,_,hf⟩:=q6 j c[j] x (List.getElem?_eq_getElem hj) hx
    exact freeze_one hf (h1 j _ (List.getElem?_eq_getElem hj))
  simp only at hr
  unfold freezeV at hr
  split at hr
  ·rename_i a
   split at hr
   case h_2=>cases hr
   rename_i t c hob
   split at hr
   case isFalse=>cases hr
   rename_i hcond
   obtain ⟨hloa,hoff,hsp,hsz⟩:=hcond
   simp only [Option.bind_eq_some_iff] at hr
   obtain ⟨r,hall,hr⟩:=hr
   obtain ⟨a',rfl,hp⟩:=hv.ptrSome
   obtain ⟨l,hl,hl2⟩:=id hp
   rw [hsp] at hl2
   have hreal:l.real:=.inl hl2.1
   obtain ⟨cs0,ty,hb,hcsz,hlo2,hc⟩:=(hs.obj _ l t c 0 hl hob).2.2.2 hreal
   obtain ⟨k1,k2⟩:=hs.freeze (lo:=lo) hl hob (by simp) hreal hloa hb
   have hrel:VRels (M.fix l.blk cs0) c ((cs0.toList.drop l.off).take c.length):=by
    refine ⟨by simp;omega,fun j x x' hx hx'=>?_⟩
    obtain ⟨_,y,hy,hxy⟩:=hc j x hx
    rw [List.getElem?_take,if_pos (List.getElem?_eq_some_iff.1 hx).1,List.getElem?_drop] at hx'
    simp only [Array.getElem?_toList] at hx'
    rw [hy] at hx';cases hx'
    exact hxy.mono k2.le
   obtain ⟨M2,q1,q2,q3,q4,q5⟩:=all hall k1 hrel
   have q5:=q5 fun j x hx=>(hc j x hx).1
   have hat:∀ (j:Nat) x,r.1[j]?=some x→one x=true∧M2.phi l.blk (l.off+j)=some ((cs0[l.off+j]?).getD undef)∧TRel M2.phi x ((cs0[l.off+j]?).getD undef):=by
    intro j x hx
    have hj:j<c.length:=by rw [← q3];exact (List.getElem?_eq_some_iff.1 hx).1
    obtain ⟨_,y,hy,_⟩:=hc j c[j] (List.getElem?_eq_getElem hj)
    rw [hy]
    refine ⟨q5 j x hx,q2.le.phi _ _ _ (by simp only [Mem.fix,if_true];exact hy),q4 j x y hx ?_⟩
    rw [List.getElem?_take,if_pos hj,List.getElem?_drop]
    simpa using hy
   have ha:=hl2.2
   rw [hoff] at ha
   subst ha
   split at hr
   ·cases hr
    exact ⟨M2,q1,k2.trans q2,cptr_mk (f:=fun j=>(cs0[l.off+j]?).getD undef) rfl (fun j x hx=>⟨(hat j x (by simpa [cellsL] using hx)).1,(hat j x (by simpa [cellsL] using hx)).2.1⟩) fun j x hx=>(hat j x (by simpa [cellsL] using hx)).2.2⟩
   ·rename_i x _ he
    cases hr
    have hx0:r.1[0]?=some x:=by rw [he];rfl
    have hcl:=one_cells (hat 0 _ hx0).1
    exact ⟨M2,q1,k2.trans q2,cptr_mk (f:=fun j=>(cs0[l.off+j]?).getD undef) rfl (fun j y hy=>by rw [hcl,← he] at hy;exact ⟨(hat j y hy).1,(hat j y hy).2.1⟩) fun j y hy=>by rw [hcl,← he] at hy;exact (hat j y hy).2.2⟩
   ·cases hr
  ·rename_i a len cap
   split at hr
   ·rename_i h0
    cases hr
    subst h0
    refine ⟨M,hs,Evo.refl hs lo,?_⟩
    rcases hv.sliceSome with ⟨a',c',rfl,_⟩ | ⟨rfl,_⟩
    ·exact TRel.lst 0 (by decide) [] a' c' 0 (fun _ _=>undef) (Nat.zero_le _) (by simp) (.inl rfl) (fun i v hv=>by simp at hv) fun i v hv=>by simp at hv
    ·exact .lnil 0 (by decide)
   ·rename_i h0
    split at hr
    case h_2=>cases hr
    rename_i t c g hob
    simp only [Option.bind_eq_some_iff] at hr
    obtain ⟨s,hsz,hr⟩:=hr
    split at hr
    case isFalse=>cases hr
    rename_i hcond
    obtain ⟨hloa,hst,hspos,hle⟩:=hcond
    simp only [Option.bind_eq_some_iff,Option.map_eq_some_iff] at hr
    obtain ⟨r,hall,el,hel,e⟩:=hr
    cases e
    rcases hv.sliceSome with ⟨a',cap',rfl,hlc,hcr⟩ | ⟨_,hz,_⟩
    case inr=>exact absurd hz h0
    have hp:=capRel_place hcr (by omega)
    obtain ⟨l,hl,hl2⟩:=id hcr
    obtain ⟨hg,hlen,hnr,hre⟩:=hs.obj _ l t c g hl hob
    have hfit:len≤cap':=by
     cases hsp:a.spot with
     | none=>rw [hsp] at hl2;omega
     | some k =>
      rw [hsp] at hl2
      rw [hsp] at hst
      unfold stampOk at hst
      split at hst
      ·simp_all
      ·rename_i e;cases e
       have:=(hl2.2.2 ((hlen (by omega)).trans (beq_iff_eq.1 hst).symm)).1
       omega
      ·cases hst
    have hcl:((c.drop a.off).take (len * s)).length=len * s:=by simp;omega
    have hreal:l.real:=by
     by_cases hr:l.real
     ·exact hr
     ·have:=hnr hr;subst this
      have:0<len * s:=Nat.mul_pos (by omega) hspos
      simp only [List.length_nil] at hle
      omega
    obtain ⟨cs0,ty,hb,hcsz,hlo2,hc⟩:=hre hreal
    have ha:=place_at hp hl hg hlen hst
    subst ha
    obtain ⟨k1,k2⟩:=hs.freeze (lo:=lo) hl hob (by simp) hreal hloa hb
    have hget:∀ (j:Nat) x,((c.drop a.off).take (len * s))[j]?=some x→c[a.off+j]?=some x:=by
     intro j x hx
     simp only [List.getElem?_take,List.getElem?_drop] at hx
     split at hx
     ·exact hx
     ·cases hx
    have hrel:VRels (M.fix l.blk cs0) ((c.drop a.off).take (len * s)) ((cs0.toList.drop (l.off+a.off)).take (len * s)):=by
     refine ⟨by simp;omega,fun j x x' hx hx'=>?_⟩
     obtain ⟨_,y,hy,hxy⟩:=hc _ x (hget j x hx)
     have hj:j<len * s:=by rw [← hcl];exact (List.getElem?_eq_some_iff.1 hx).1
     rw [List.getElem?_take,if_pos hj,List.getElem?_drop] at hx'
     simp only [Array.getElem?_toList] at hx'
     rw [Nat.add_assoc,hy] at hx';cases hx'
     exact hxy.mono k2.le
    obtain ⟨M2,q1,q2,q3,q4,q5⟩:=all hall k1 hrel
    have q5:=q5 fun j x hx=>(hc _ x (hget j x hx)).1
    refine ⟨M2,q1,k2.trans q2,elems_lst (cs':=(cs0.toList.drop (l.off+a.off)).take (len * s)) (by decide) hel hsz (by rw [q3,hcl]) rfl hfit (fun e=>by simp at e) q5 (fun j v v' hv hv'=>q4 j v v' hv hv') (by rw [q3,hrel.1];exact Nat.le_refl _) fun j v hv=>?_⟩
    refine q2.le.phi _ _ _ ?_
    simp only [Mem.fix,if_true]
    rw [List.getElem?_take] at hv
    split at hv
    ·rw [List.getElem?_drop] at hv
     simpa using hv
    ·cases hv
  ·rename_i c
   simp only [Option.map_eq_some_iff] at hr
   obtain ⟨r,hall,e⟩:=hr
   cases e
   obtain ⟨x',rfl,hx,h1,h2⟩:=hv.aggSome
   obtain ⟨M2,q1,q2,q3,q4,q5⟩:=all (c':=x'.toList) hall hs ⟨by simpa using hx,fun i u u' hu hu'=>h2 i u u' (by simpa using hu) (by simpa using hu')⟩
   have q5:=q5 fun j x hx=>h1 j x (by simpa using hx)
   exact ⟨M2,q1,q2,.agg _ _ (by simpa [q3] using hx) (fun j x hx=>q5 j x (by simpa using hx)) fun j x y hx hy=>q4 j x y (by simpa using hx) (by simpa using hy)⟩
  ·split at hr
   ·rename_i hset
    cases hr
    exact ⟨M,hs,Evo.refl hs lo,hv.settle hset⟩
   ·cases hr
end
end Go.Proofs.YtplebjehcgcdeaaGreatDoor.Bm
