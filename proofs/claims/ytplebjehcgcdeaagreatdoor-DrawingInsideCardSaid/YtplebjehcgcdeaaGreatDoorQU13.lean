/-
 From a law's arguments, as they are read, to trees; and from the machine's answer back to the statement's form. Conditions: the arguments' types are built of bools, integers, strings, slices, structs and arrays.
-/
import Derived.Test.YtplebjehcgcdeaaGreatDoorQU12
import Derived.ChangeBears
import Derived.Carry
import Derived.OpenVars
import Derived.JoinedOf
import Derived.ProofKit
namespace Go.Proofs.YtplebjehcgcdeaaGreatDoor.Bm
open Go Go.RowKit Go.ChangeShapes Go.WideShapes
def elemV (P:Program) (e:TypeId) (c:List Value):Value:=if aggT P e=some true then .agg ⟨c⟩ else c.headD undef
def Wt (P:Program):Nat→TypeId→List Value→Prop
 | 0,_,_=>False
 | n+1,t,cs =>
  match P.underlying t with
  | some .bool=>∃ b,cs=[.bool b]
  | some (.int k)=>∃ x,cs=[.int k x]∧(Lit.int k x).wf=true
  | some .string=>∃ s:ByteArray,cs=[.string s]∧s.size≤maxLen
  | some (.slice e)=>∃ ls:List (List Value),cs=[lst false (ls.map (elemV P e))]∧(ls.length≤maxLen∧ls.length * P.bytesOf e≤reachBytes)∧∀ c∈ls,Wt P n e c
  | some (.struct fs)=>cs.length=P.cellsOf t∧∀ f∈fs.toList,Wt P n f.type ((cs.drop f.offset).take (P.cellsOf f.type))
  | some (.array m e)=>cs.length=P.cellsOf t∧∀ i,i<m→Wt P n e ((cs.drop (i * P.cellsOf e)).take (P.cellsOf e))
  | _=>False
def closedT (P:Program) (L:List TypeId):Bool :=
 L.all fun t=>decide (t<P.types.size) && match P.underlying t with
  | some .bool=>true
  | some (.int _)=>true
  | some .string=>true
  | some (.slice e)=>L.contains e && decide (0<P.cellsOf e)
  | some (.struct fs)=>fs.toList.all fun f=>L.contains f.type
  | some (.array _ e)=>L.contains e
  | _=>false
def TRels (Φ:Phi) (l l':List Value):Prop:=l.length=l'.length∧∀ (i:Nat) u u',l[i]?=some u→l'[i]?=some u'→TRel Φ u u'
theorem TRels.one {Φ:Phi} {u u':Value} (h:TRel Φ u u'):TRels Φ [u] [u'] :=
 ⟨rfl,fun i a b ha hb=>by cases i <;> simp at ha hb;subst ha;subst hb;exact h⟩
theorem TRels.get {Φ:Phi} {l l':List Value} (h:TRels Φ l l') {i:Nat} {u:Value} (hu:l[i]?=some u):∃ u',l'[i]?=some u'∧TRel Φ u u':=by
 have hi:i<l'.length:=h.1 ▸ (List.getElem?_eq_some_iff.1 hu).1
 exact ⟨l'[i],List.getElem?_eq_getElem hi,h.2 i _ _ hu (List.getElem?_eq_getElem hi)⟩
theorem TRels.append {Φ:Phi} {l l' r r':List Value} (h:TRels Φ l l') (k:TRels Φ r r'):TRels Φ (l++r) (l'++r'):=by
 refine ⟨by simp [h.1,k.1],fun i u u' hu hu'=>?_⟩
 by_cases hi:i<l.length
 ·rw [List.getElem?_append_left hi] at hu
  rw [List.getElem?_append_left (h.1 ▸ hi)] at hu'
  exact h.2 i u u' hu hu'
 ·rw [List.getElem?_append_right (Nat.le_of_not_lt hi)] at hu
  rw [List.getElem?_append_right (h.1 ▸ Nat.le_of_not_lt hi),← h.1] at hu'
  exact k.2 _ u u' hu hu'
theorem trels_flatten {Φ:Phi}:∀ {l l':List (List Value)},l.length=l'.length→(∀ (i:Nat) x x',l[i]?=some x→l'[i]?=some x'→TRels Φ x x')→TRels Φ l.flatten l'.flatten
 | [],[],_,_=>⟨rfl,fun i u u' h=>by simp at h⟩
 | [],_ :: _,h,_=>by simp at h
 | _ :: _,[],h,_=>by simp at h
 | x :: l,x' :: l',h,hr=>by
  simp only [List.flatten_cons]
  exact (hr 0 x x' rfl rfl).append (trels_flatten (by simpa using h) fun i y y' hy hy'=>hr (i+1) y y' (by simpa using hy) (by simpa using hy'))
theorem drop_over {a b:List Value} {n:Nat}:(a++b).drop (a.length+n)=b.drop n:=by
 rw [List.drop_append]
 simp
theorem flatten_part:∀ (l:List (List Value)) (i:Nat) x,l[i]?=some x→(l.flatten.drop ((l.take i).map List.length).sum).take x.length=x
 | [],i,x,h=>by simp at h
 | y :: l,0,x,h=>by simp at h;subst h;simp
 | y :: l,i+1,x,h=>by
  have:=flatten_part l i x (by simpa using h)
  simp only [List.flatten_cons,List.take_succ_cons,List.map_cons,List.sum_cons]
  rw [drop_over]
  exact this
section
variable {H:Type} {enc:TypeId × Value→H} {P:Program} {W:World}
def cellsW (W:World):Phi:=fun b x=>W.cell? ⟨b,x,none⟩
def Abs (P:Program) (W:World) (n:Nat) (t:TypeId) (cs ca:List Value):Prop:=TRels (cellsW W) ca cs∧(∀ (j:Nat) v,ca[j]?=some v→one v=true)∧Wt P n t ca
theorem abs_list {n:Nat}:∀ (l:List (TypeId × List Value)),(∀ x∈l,∃ ca,Abs P W n x.1 x.2 ca) →
  ∃ (cas:List (List Value)),cas.length=l.length∧∀ (i:Nat) x ca,l[i]?=some x→cas[i]?=some ca→Abs P W n x.1 x.2 ca
 | [],_=>⟨[],rfl,fun i x ca h=>by simp at h⟩
 | x :: l,h=>by
  obtain ⟨ca,h1⟩:=h x (by simp)
  obtain ⟨cas,k2,k3⟩:=abs_list l (fun y hy=>h y (by simp [hy]))
  refine ⟨ca :: cas,by simp [k2],fun i y c hy hc=>?_⟩
  cases i with
  | zero=>simp at hy hc;subst hy;subst hc;exact h1
  | succ i=>exact k3 i y c (by simpa using hy) (by simpa using hc)
theorem tile {fs:List Field} {cs:List Value} (hl:cs.length=(fs.map fun f=>P.cellsOf f.type).sum):∀ (k:Nat) (gs:List Field),(∀ (j:Nat) f,gs[j]?=some f→f.offset=k+((gs.take j).map fun f=>P.cellsOf f.type).sum)→k+(gs.map fun f=>P.cellsOf f.type).sum=cs.length →
  (gs.map fun f=>(cs.drop f.offset).take (P.cellsOf f.type)).flatten=cs.drop k
 | k,[],_,h=>by simp at h;subst h;simp
 | k,f :: gs,h,hk=>by
  have h0:=h 0 f rfl
  simp at h0
  have ih:=tile hl (k+P.cellsOf f.type) gs (fun j g hj=>by
   have:=h (j+1) g (by simpa using hj)
   simpa [Nat.add_assoc] using this) (by simp at hk;omega)
  simp only [List.map_cons,List.flatten_cons,ih,h0]
  rw [← List.drop_drop,List.take_append_drop]
theorem chunks {m s:Nat} {cs:List Value} (hl:cs.length=m * s):∀ k,k≤m→((List.range' (m-k) k).map fun i=>(cs.drop (i * s)).take s).flatten=cs.drop ((m-k) * s)
 | 0,_=>by simp [hl]
 | k+1,hk=>by
  have ih:=chunks hl k (by omega)
  have e:m-(k+1)+1=m-k:=by omega
  rw [List.range'_succ,List.map_cons,List.flatten_cons,e,ih]
  have e2:(m-k) * s=(m-(k+1)) * s+s:=by rw [← e,Nat.add_mul,Nat.one_mul]
  rw [e2,← List.drop_drop,List.take_append_drop]
theorem sum_lengths {m s:Nat} {cas:List (List Value)} (h:∀ ca∈cas,ca.length=s) (hm:m≤cas.length):((cas.take m).map List.length).sum=m * s:=by
 induction m generalizing cas with
 | zero=>simp
 | succ m ih =>
  cases cas with
  | nil=>simp at hm
  | cons c cas =>
   simp only [List.take_succ_cons,List.map_cons,List.sum_cons]
   rw [ih (fun x hx=>h x (by simp [hx])) (by simpa using hm),h c (by simp),Nat.add_mul]
   omega
theorem ones_flatten {cas:List (List Value)} (h:∀ (i:Nat) ca,cas[i]?=some ca→∀ (j:Nat) v,ca[j]?=some v→one v=true):∀ (j:Nat) v,cas.flatten[j]?=some v→one v=true:=by
 intro j v hv
 obtain ⟨ca,hca,hv⟩:=List.mem_flatten.1 (List.mem_of_getElem? hv)
 obtain ⟨i,hi⟩:=List.mem_iff_getElem?.1 hca
 obtain ⟨k,hk⟩:=List.mem_iff_getElem?.1 hv
 exact h i ca hi k v hk
theorem cells_at {a:Addr} {i s:Nat} {cs:List Value} (h:W.cells? 0 (a.add i) s=some cs) {k:Nat} {v:Value} (hk:cs[k]?=some v):W.cell? ⟨a.block,a.off+(i+k),none⟩=some v∧a.block<W.heap.size:=by
 obtain ⟨_,h2,h3⟩:=World.cells?_some h
 have hlt:k<s:=by have:=(List.getElem?_eq_some_iff.1 hk).1;omega
 have h4:=(h3 k hlt).trans hk
 have hs:=World.cell?_spot h4
 have e:(a.add i).add k=⟨a.block,a.off+(i+k),none⟩:=by
  unfold Addr.add at hs ⊢
  split <;> rename_i h0 <;> split <;> rename_i h1 <;> simp_all
  ·cases a;simp_all
  ·omega
 rw [e] at h4
 refine ⟨h4,?_⟩
 unfold World.cell? at h4
 split at h4
 ·rename_i hh
  exact (Array.getElem?_eq_some_iff.1 hh).1
 ·cases h4
theorem wt_single {n:Nat} {t:TypeId} {c:List Value} (h:Wt P n t c) (ha:aggT P t≠some true):∃ u,c=[u]∧one u=true:=by
 cases n with
 | zero=>exact h.elim
 | succ n =>
  unfold Wt at h
  unfold aggT at ha
  cases hu:P.underlying t with
  | none=>rw [hu] at h;exact h.elim
  | some k =>
   rw [hu] at h ha
   cases k <;> simp only at h
   case bool=>obtain ⟨b,rfl⟩:=h;exact ⟨_,rfl,rfl⟩
   case int=>obtain ⟨x,rfl,_⟩:=h;exact ⟨_,rfl,rfl⟩
   case string=>obtain ⟨s,rfl,_⟩:=h;exact ⟨_,rfl,rfl⟩
   case slice=>obtain ⟨s,rfl,_⟩:=h;exact ⟨_,rfl,rfl⟩
   case struct=>simp at ha
   case array=>simp at ha
theorem elem_cells {n:Nat} {e:TypeId} {c:List Value} (h:Wt P n e c):cellsL (elemV P e c)=c:=by
 unfold elemV
 split
 ·rfl
 ·obtain ⟨u,rfl,h1⟩:=wt_single h ‹_›
  exact one_cells h1
theorem weights_all {e:TypeId}:∀ (l:List (DataW H)),∀ d∈l,∀ w∈d.weights P e,w∈DataW.weightsAll P e l
 | [],d,h=>by cases h
 | x :: l,d,h=>fun w hw=>by
  unfold DataW.weightsAll
  rcases List.mem_cons.1 h with rfl | h
  ·exact List.mem_append_left _ hw
  ·exact List.mem_append_right _ (weights_all l d h w hw)
theorem weights_each:∀ (ts:List TypeId) (ds:List (DataW H)) (i:Nat) t d,ts[i]?=some t→ds[i]?=some d→∀ w∈d.weights P t,w∈DataW.weightsEach P ts ds
 | [],_,i,t,d,h,_=>by simp at h
 | _ :: _,[],i,t,d,_,h=>by simp at h
 | t' :: ts,d' :: ds,i,t,d,h1,h2=>fun w hw=>by
  unfold DataW.weightsEach
  cases i with
  | zero =>
   simp at h1 h2
   subst h1;subst h2
   exact List.mem_append_left _ hw
  | succ i=>exact List.mem_append_right _ (weights_each ts ds i t d (by simpa using h1) (by simpa using h2) w hw)
theorem weights_pre:∀ (ts us:List TypeId) (ds:List (DataW H)),∀ w∈DataW.weightsEach P ts ds,w∈DataW.weightsEach P (ts++us) ds
 | [],_,ds,w,h=>by unfold DataW.weightsEach at h;cases h
 | t :: ts,us,[],w,h=>by unfold DataW.weightsEach at h;cases h
 | t :: ts,us,d :: ds,w,h=>by
  unfold DataW.weightsEach at h
  rw [List.cons_append]
  unfold DataW.weightsEach
  rcases List.mem_append.1 h with h | h
  ·exact List.mem_append_left _ h
  ·exact List.mem_append_right _ (weights_pre ts us ds w h)
theorem tree_cells {L:List TypeId} (hl:laidOutB P=true) (hm:mapsRowed P=true) (hL:closedT P L=true):∀ (n:Nat) (t:TypeId) (cs:List Value) x,t∈L→DataW.trod enc P W 0 (fun _=>true) true n t cs=some x→(∀ w∈x.1.weights P t,w≤reachBytes)→∃ ca,Abs P W n t cs ca
 | 0,t,cs,x,_,h,_=>by simp [DataW.trod] at h
 | n+1,t,cs,x,ht,h,hwt=>by
  have K:=kids_rows hl hm
  have hc:=List.all_eq_true.1 hL t ht
  simp only [Bool.and_eq_true,decide_eq_true_eq] at hc
  obtain ⟨htl,hc⟩:=hc
  cases hu:P.underlying t with
  | none=>rw [hu] at hc;simp at hc
  | some k =>
  rw [hu] at hc
  cases k <;> try (simp at hc;done)
  case bool =>
   obtain ⟨b,rfl,rfl⟩:=DataW.trod_bool hu h
   exact ⟨[.bool b],.one (.atom _ rfl),fun j v hj=>by cases j <;> simp at hj;subst hj;rfl,by unfold Wt;rw [hu];exact ⟨b,rfl⟩⟩
  case int k =>
   obtain ⟨q,rfl,rfl,hw⟩:=DataW.trod_int hu h
   exact ⟨[.int k q],.one (.atom _ rfl),fun j v hj=>by cases j <;> simp at hj;subst hj;rfl,by unfold Wt;rw [hu];exact ⟨q,rfl,hw⟩⟩
  case string =>
   obtain ⟨q,rfl,rfl,hw⟩:=DataW.trod_string hu h
   exact ⟨[.string q],.one (.atom _ rfl),fun j v hj=>by cases j <;> simp at hj;subst hj;rfl,by unfold Wt;rw [hu];exact ⟨q,rfl,hw⟩⟩
  case slice e =>
   simp only [Bool.and_eq_true,decide_eq_true_eq,List.contains_iff_mem] at hc
   obtain ⟨heL,hpos⟩:=hc
   rcases DataW.trod_slice hu h with ⟨rfl,rfl⟩ | ⟨a,len,cap,elems,rest,n',hn,rfl,rfl,-,h1,h2,h3,h4,h5,-⟩
   ·exact ⟨[lst false []],.one (.lnil 0 (by decide)),fun j v hj=>by cases j <;> simp at hj;subst hj;rfl,by unfold Wt;rw [hu];exact ⟨[],rfl,⟨by simp,by simp⟩,fun c hc=>by simp at hc⟩⟩
   ·obtain rfl:n=n':=by omega
    obtain ⟨h6,h7⟩:=h5 rfl
    unfold DataW.weights at hwt
    rw [hu] at hwt
    simp only [List.mem_cons,List.mem_append,List.length_map] at hwt
    have hw0:=hwt _ (.inl rfl)
    have hwE:∀ y∈elems,∀ w∈y.1.weights P e,w≤reachBytes:=fun y hy w hw=>hwt w (.inr (.inl (weights_all _ y.1 (List.mem_map.2 ⟨y,hy,rfl⟩) w hw)))
    have hex:∀ i,i<len→∃ cs y,W.cells? 0 (a.add (i * P.cellsOf e)) (P.cellsOf e)=some cs∧DataW.trod enc P W 0 (fun _=>true) true n e cs=some y∧∀ w∈y.1.weights P e,w≤reachBytes:=by
     intro i hi
     have:=h4 i hi
     rw [List.getElem?_eq_getElem (by omega)] at this
     obtain ⟨cs,e1,e2⟩:=Option.bind_eq_some_iff.1 this
     exact ⟨cs,_,e1,e2,hwE _ (List.getElem_mem _)⟩
    obtain ⟨real,hrdef⟩:∃ real:Nat→List Value,real=fun i=>(W.cells? 0 (a.add (i * P.cellsOf e)) (P.cellsOf e)).getD []:=⟨_,rfl⟩
    have hreal:∀ i,i<len→W.cells? 0 (a.add (i * P.cellsOf e)) (P.cellsOf e)=some (real i)∧(real i).length=P.cellsOf e∧∃ y,DataW.trod enc P W 0 (fun _=>true) true n e (real i)=some y∧∀ w∈y.1.weights P e,w≤reachBytes:=by
     intro i hi
     obtain ⟨cs,y,e1,e2,e4⟩:=hex i hi
     have e3:real i=cs:=by simp [hrdef,e1]
     rw [e3]
     exact ⟨e1,(World.cells?_some e1).2.1,y,e2,e4⟩
    obtain ⟨cas,k2,k3⟩:=abs_list (P:=P) (W:=W) (n:=n) ((List.range len).map fun i=>(e,real i)) (by
     intro x hx
     obtain ⟨i,hi,rfl⟩:=List.mem_map.1 hx
     obtain ⟨_,_,y,hy,hyw⟩:=hreal i (List.mem_range.1 hi)
     exact tree_cells hl hm hL n e _ y heL hy hyw)
    have k3':∀ i ca,cas[i]?=some ca→i<len∧Abs P W n e (real i) ca:=by
     intro i ca hi
     have hlt:i<len:=by have:=(List.getElem?_eq_some_iff.1 hi).1;simp at k2;omega
     exact ⟨hlt,k3 i (e,real i) ca (by simp [hlt]) hi⟩
    have hk2:cas.length=len:=by simpa using k2
    have hsp:len≠0→a.spot=none:=by
     intro h0
     obtain ⟨e1,e2,_⟩:=hreal 0 (by omega)
     have:=(World.cells?_some e1).2.2 0 hpos
     rw [List.getElem?_eq_getElem (by omega)] at this
     simpa [Addr.add] using World.cell?_spot this
    refine ⟨[lst false (cas.map (elemV P e))],.one ?_,fun j v hj=>by cases j <;> simp at hj;subst hj;rfl,?_⟩
    ·have:TRel (cellsW W) (.func (.yield 0) ⟨[]⟩ ⟨cas.map (elemV P e)⟩) (.slice (some a) (cas.map (elemV P e)).length cap):=by
      refine .lst 0 (by decide) _ a cap (P.cellsOf e) (fun i j=>((real i)[j]?).getD undef) (by simp [hk2];exact h1) (by simp) ?_ (fun i v hv=>?_) fun i v hv j u hu=>?_
      ·by_cases h0:len=0
       ·left;simp;exact List.eq_nil_of_length_eq_zero (by omega)
       ·exact .inr (hsp h0)
      ·rw [List.getElem?_map,Option.map_eq_some_iff] at hv
       obtain ⟨ca,hca,rfl⟩:=hv
       obtain ⟨c1,c2,c3,c4⟩:=k3' i ca hca
       rw [elem_cells c4]
       refine ⟨by rw [c2.1];exact (hreal i c1).2.1,fun j u hu=>⟨c3 j u hu,?_⟩⟩
       obtain ⟨u',hu',_⟩:=c2.get hu
       rw [hu']
       obtain ⟨d1,d2⟩:=cells_at (hreal i c1).1 hu'
       exact d1
      ·rw [List.getElem?_map,Option.map_eq_some_iff] at hv
       obtain ⟨ca,hca,rfl⟩:=hv
       obtain ⟨c1,c2,c3,c4⟩:=k3' i ca hca
       rw [elem_cells c4] at hu
       obtain ⟨u',hu',hr⟩:=c2.get hu
       rw [hu'];exact hr
     simp only [List.length_map,hk2] at this
     exact this
    ·unfold Wt
     rw [hu]
     refine ⟨cas,rfl,⟨by omega,Nat.le_trans (Nat.mul_le_mul_right _ (by omega:cas.length≤elems.length+rest.length)) hw0⟩,fun c hc=>?_⟩
     obtain ⟨i,hi⟩:=List.mem_iff_getElem?.1 hc
     exact (k3' i c hi).2.2.2
  case struct fs =>
   obtain ⟨xs,n',hn,rfl,h1,h2,h3⟩:=DataW.trod_struct hu h
   obtain rfl:n=n':=by omega
   obtain ⟨q1,q2,q3⟩:=K.struct htl hu
   have hcl:∀ f∈fs.toList,f.type∈L:=fun f hf=>by have:=List.all_eq_true.1 hc f hf;simpa using this
   obtain ⟨cas,k2,k3⟩:=abs_list (P:=P) (W:=W) (n:=n) (fs.toList.map fun f=>(f.type,(cs.drop f.offset).take (P.cellsOf f.type))) (by
     intro x hx
     obtain ⟨f,hf,rfl⟩:=List.mem_map.1 hx
     obtain ⟨i,hi⟩:=List.mem_iff_getElem?.1 hf
     have:=h3 i f (by simpa using hi)
     have hix:i<xs.length:=by have:=(List.getElem?_eq_some_iff.1 hi).1;simp at this;omega
     rw [List.getElem?_eq_getElem hix] at this
     refine tree_cells hl hm hL n _ _ _ (hcl f hf) this fun w hw=>hwt w ?_
     unfold DataW.weights
     rw [hu]
     exact weights_each _ _ i f.type xs[i].1 (by rw [List.getElem?_map,hi];rfl) (by rw [List.getElem?_map,List.getElem?_eq_getElem hix];rfl) w hw)
   have ht:=tile (P:=P) (fs:=fs.toList) (cs:=cs) (by rw [h1,q2]) 0 fs.toList (fun j f hj=>by rw [Nat.zero_add];exact q3 j f hj) (by rw [Nat.zero_add,h1,q2])
   have hf2:(fs.toList.map fun f=>(f.type,(cs.drop f.offset).take (P.cellsOf f.type))).map (·.2)=fs.toList.map fun f=>(cs.drop f.offset).take (P.cellsOf f.type):=by
    rw [List.map_map];rfl
   have hk2:cas.length=fs.toList.length:=by simpa using k2
   have k3':∀ (i:Nat) ca,cas[i]?=some ca→∃ f,fs.toList[i]?=some f∧TRels (cellsW W) ca ((cs.drop f.offset).take (P.cellsOf f.type))∧(∀ (j:Nat) v,ca[j]?=some v→one v=true)∧Wt P n f.type ca:=by
    intro i ca hi
    have hlt:i<fs.toList.length:=by have:=(List.getElem?_eq_some_iff.1 hi).1;omega
    exact ⟨_,List.getElem?_eq_getElem hlt,k3 i (_,_) ca (by rw [List.getElem?_map,List.getElem?_eq_getElem hlt];rfl) hi⟩
   have hrel:TRels (cellsW W) cas.flatten cs:=by
    rw [← List.drop_zero (l:=cs),← ht]
    refine trels_flatten (by simpa using hk2) fun i y y' hy hy'=>?_
    obtain ⟨f,hf,c1,c2,c3⟩:=k3' i y hy
    rw [List.getElem?_map,hf] at hy'
    simp only [Option.map_some,Option.some.injEq] at hy'
    subst hy';exact c1
   refine ⟨cas.flatten,hrel,ones_flatten fun i ca hi=>(k3' i ca hi).choose_spec.2.2.1,?_⟩
   unfold Wt
   rw [hu]
   refine ⟨hrel.1.trans h1,fun f hf=>?_⟩
   obtain ⟨i,hi⟩:=List.mem_iff_getElem?.1 hf
   have hlt:=(List.getElem?_eq_some_iff.1 hi).1
   have hci:cas[i]?=some cas[i]:=List.getElem?_eq_getElem (by omega)
   have hlen:∀ (j:Nat) ca,cas[j]?=some ca→∃ f,fs.toList[j]?=some f∧ca.length=P.cellsOf f.type:=by
    intro j ca hj
    obtain ⟨f,hf,c1,_⟩:=k3' j ca hj
    refine ⟨f,hf,?_⟩
    rw [c1.1,List.length_take,List.length_drop]
    have e1:=q3 j f hf
    have e2:P.cellsOf t=((fs.toList.take j).map fun f=>P.cellsOf f.type).sum+((fs.toList.drop j).map fun f=>P.cellsOf f.type).sum:=by
     rw [q2,← List.sum_append,← List.map_append,List.take_append_drop]
    have hj2:=(List.getElem?_eq_some_iff.1 hf).1
    have e3:fs.toList.drop j=f :: fs.toList.drop (j+1):=by
     rw [List.drop_eq_getElem_cons hj2,(List.getElem?_eq_some_iff.1 hf).2]
    rw [e3,List.map_cons,List.sum_cons] at e2
    omega
   have hp:=flatten_part cas i _ hci
   have e1:((cas.take i).map List.length)=((fs.toList.take i).map fun f=>P.cellsOf f.type):=by
    apply List.ext_getElem?
    intro j
    rw [List.getElem?_map,List.getElem?_map,List.getElem?_take,List.getElem?_take]
    split
    ·rename_i hj
     have hcj:cas[j]?=some cas[j]:=List.getElem?_eq_getElem (by omega)
     obtain ⟨f,hf,hl⟩:=hlen j _ hcj
     rw [hcj,hf];simp [hl]
    ·rfl
   obtain ⟨f',hf',hl'⟩:=hlen i _ hci
   obtain rfl:f=f':=by rw [hi] at hf';exact Option.some.inj hf'
   rw [e1,← q3 i f hi,hl'] at hp
   rw [hp]
   obtain ⟨g,hg,_,_,c3⟩:=k3' i _ hci
   obtain rfl:f=g:=by rw [hi] at hg;exact Option.some.inj hg
   exact c3
  case array m e =>
   simp only [List.contains_iff_mem] at hc
   obtain ⟨q1,q2⟩:=K.array htl hu
   obtain ⟨h1,xs,h2,h3⟩:cs.length=P.cellsOf t∧∃ xs,((List.range m).mapM fun i=>DataW.trod enc P W 0 (fun _=>true) true n e ((cs.drop (i * P.cellsOf e)).take (P.cellsOf e)))=some xs∧x.1=.agg (xs.map (·.1)):=by
    rw [DataW.trod_step] at h
    unfold DataW.trodStep at h
    rw [hu] at h
    split at h <;> simp_all
    obtain ⟨h1,xs,h2,h3⟩:=h
    exact ⟨xs,h2,by rw [← h3]⟩
   obtain ⟨cas,k2,k3⟩:=abs_list (P:=P) (W:=W) (n:=n) ((List.range m).map fun i=>(e,(cs.drop (i * P.cellsOf e)).take (P.cellsOf e))) (by
     intro x hx
     obtain ⟨i,hi,rfl⟩:=List.mem_map.1 hx
     obtain ⟨y,hyi,hy⟩:=(mapM_some h2).2 i i (by rw [List.getElem?_range (List.mem_range.1 hi)])
     refine tree_cells hl hm hL n _ _ _ hc hy fun w hw=>hwt w ?_
     rw [h3]
     unfold DataW.weights
     rw [hu]
     exact weights_all _ y.1 (List.mem_map.2 ⟨y,List.mem_of_getElem? hyi,rfl⟩) w hw)
   have hk2:cas.length=m:=by simpa using k2
   have k3':∀ i ca,cas[i]?=some ca→i<m∧TRels (cellsW W) ca ((cs.drop (i * P.cellsOf e)).take (P.cellsOf e))∧(∀ (j:Nat) v,ca[j]?=some v→one v=true)∧Wt P n e ca:=by
    intro i ca hi
    have hlt:i<m:=by have:=(List.getElem?_eq_some_iff.1 hi).1;omega
    exact ⟨hlt,k3 i (_,_) ca (by simp [hlt]) hi⟩
   have klen:∀ ca∈cas,ca.length=P.cellsOf e:=by
    intro ca hca
    obtain ⟨i,hi⟩:=List.mem_iff_getElem?.1 hca
    obtain ⟨a0,a1,_⟩:=k3' i ca hi
    rw [a1.1,List.length_take,List.length_drop,h1,q2]
    have:(i+1) * P.cellsOf e≤m * P.cellsOf e:=Nat.mul_le_mul_right _ a0
    rw [Nat.add_mul] at this
    omega
   have hrel:TRels (cellsW W) cas.flatten cs:=by
    have hch:=chunks (m:=m) (s:=P.cellsOf e) (cs:=cs) (by rw [h1,q2]) m (Nat.le_refl _)
    rw [Nat.sub_self,Nat.zero_mul,List.drop_zero] at hch
    rw [← hch]
    refine trels_flatten (by simpa using hk2) fun i y y' hy hy'=>?_
    obtain ⟨hi,c1,c2,c3⟩:=k3' i y hy
    rw [List.getElem?_map,List.getElem?_range' (by simpa using hi)] at hy'
    simp only [Option.map_some,Option.some.injEq] at hy'
    subst hy';simpa using c1
   refine ⟨cas.flatten,hrel,ones_flatten fun i ca hi=>(k3' i ca hi).2.2.1,?_⟩
   unfold Wt
   rw [hu]
   refine ⟨hrel.1.trans h1,fun i hi=>?_⟩
   have hci:cas[i]?=some cas[i]:=List.getElem?_eq_getElem (by omega)
   have hp:=flatten_part cas i _ hci
   rw [sum_lengths klen (by omega),klen _ (List.getElem_mem _)] at hp
   rw [hp]
   exact (k3' i _ hci).2.2.2
theorem tree_arg {L:List TypeId} (hl:laidOutB P=true) (hm:mapsRowed P=true) (hL:closedT P L=true) {t:TypeId} (ht:t∈L) {base:Nat} {v:Value} {d:DataW H} {ps:List MemPlace}
  (hd:DataW.Trod enc P W 0 (fun _=>true) true t v d ps) (hv:Value.okWide P W .any base t v) (hwt:∀ w∈d.weights P t,w≤reachBytes):∃ n c,Wt P n t c∧TRel (cellsW W) (elemV P t c) v:=by
 obtain ⟨n,hn⟩:=hd
 obtain ⟨ca,h1,h2,h3⟩:=tree_cells hl hm hL n t _ _ ht hn hwt
 refine ⟨n,ca,h3,?_⟩
 by_cases ha:aggT P t=some true
 ·obtain ⟨cs,rfl⟩:∃ cs,v=.agg cs:=by
   unfold Value.okWide at hv
   unfold aggT at ha
   cases hu:P.underlying t with
   | none=>rw [hu] at ha;simp at ha
   | some k =>
    rw [hu] at ha hv
    cases k <;> simp at ha <;> (obtain ⟨cs,rfl,_⟩:=hv;exact ⟨cs,rfl⟩)
  unfold elemV
  rw [if_pos ha]
  exact .agg _ _ (by simpa [Value.cells] using h1.1) (fun i u hu=>h2 i u (by simpa using hu)) fun i u u' hu hu'=>h1.2 i u u' (by simpa using hu) (by simpa [Value.cells] using hu')
 ·obtain ⟨u,rfl,hu1⟩:=wt_single h3 ha
  have hone:v.cells.toList=[v]:=by
   have hw:=h3
   cases n with
   | zero=>exact hw.elim
   | succ n =>
    unfold Wt at hw
    unfold aggT at ha
    cases hu:P.underlying t with
    | none=>rw [hu] at hw;exact hw.elim
    | some k =>
     rw [hu] at hw ha
     cases k <;> simp only at hw
     case bool=>obtain ⟨b,rfl⟩:=okWide_bool hu hv;rfl
     case int=>obtain ⟨b,rfl⟩:=okWide_int hu hv;rfl
     case string=>obtain ⟨b,rfl⟩:=okWide_string hu hv;rfl
     case slice=>obtain ⟨a,l,c,rfl⟩:=okWide_slice hu hv;rfl
     case struct=>simp at ha
     case array=>simp at ha
  rw [hone] at h1
  have:=h1.2 0 u v rfl rfl
  unfold elemV
  rw [if_neg ha]
  exact this
theorem tree_args {L:List TypeId} (hl:laidOutB P=true) (hm:mapsRowed P=true) (hL:closedT P L=true) {base:Nat}:∀ (ts:List TypeId) (vs:List Value) (ds:List (DataW H)) (ps:List MemPlace),(∀ t∈ts,t∈L) →
  DataW.TrodAll enc P W 0 (fun _=>true) true ts vs ds ps→(∀ (j:Nat) t v,ts[j]?=some t→vs[j]?=some v→Value.okWide P W .any base t v)→(∀ w∈DataW.weightsEach P ts ds,w≤reachBytes) →
  ∃ tr:List Value,TRels (cellsW W) tr vs∧tr.length=ts.length∧∀ (j:Nat) t u,ts[j]?=some t→tr[j]?=some u→∃ n c,Wt P n t c∧u=elemV P t c
 | [],[],_,_,_,_,_,_=>⟨[],⟨rfl,fun i u u' h=>by simp at h⟩,rfl,fun j t u h=>by simp at h⟩
 | [],_ :: _,[],_,_,h,_,_=>h.elim
 | [],_ :: _,_ :: _,_,_,h,_,_=>h.elim
 | t :: ts,vs,ds,ps,hT,h,hv,hwt=>by
  obtain ⟨v,vs',d,ds',p,q,rfl,rfl,rfl,hd,hrest⟩:=trodAll_cons h
  obtain ⟨n,c,h1,h2⟩:=tree_arg hl hm hL (hT t (by simp)) hd (hv 0 t v rfl rfl) fun w hw=>hwt w (by unfold DataW.weightsEach;exact List.mem_append_left _ hw)
  obtain ⟨tr,k1,k2,k3⟩:=tree_args hl hm hL ts vs' ds' q (fun t ht=>hT t (by simp [ht])) hrest (fun j t v ht hv'=>hv (j+1) t v (by simpa using ht) (by simpa using hv')) fun w hw=>hwt w (by unfold DataW.weightsEach;exact List.mem_append_right _ hw)
  refine ⟨elemV P t c :: tr,⟨by simp [k1.1],fun i u u' hu hu'=>?_⟩,by simp [k2],fun j t' u ht hu=>?_⟩
  ·cases i with
   | zero=>simp at hu hu';subst hu;subst hu';exact h2
   | succ i=>exact k1.2 i u u' (by simpa using hu) (by simpa using hu')
  ·cases j with
   | zero=>simp at ht hu;subst ht;subst hu;exact ⟨n,c,h1,rfl⟩
   | succ j=>exact k3 j t' u (by simpa using ht) (by simpa using hu)
theorem trodAll_below (hl:laidOutB P=true) {W':World} (hb:Below W.heap.size W W'):∀ (ts:List TypeId) (vs:List Value) (ds:List (DataW H)) (ps:List MemPlace),(∀ t∈ts,P.readableRec t=true∧t<P.types.size) →
  DataW.TrodAll enc P W 0 (fun _=>true) true ts vs ds ps→(∀ p∈ps,p.block<W.heap.size)→DataW.TrodAll enc P W' 0 (fun b=>decide (b<W.heap.size)) true ts vs ds ps
 | [],[],[],_,_,h,_=>h
 | [],[],_ :: _,_,_,h,_=>h.elim
 | [],_ :: _,[],_,_,h,_=>h.elim
 | [],_ :: _,_ :: _,_,_,h,_=>h.elim
 | t :: ts,vs,ds,ps,hT,h,hlt=>by
  obtain ⟨v,vs',d,ds',p,q,rfl,rfl,rfl,hd,hrest⟩:=trodAll_cons h
  exact ⟨p,q,Below.trod hl (hT t (by simp)).1 (hT t (by simp)).2 hd hb fun x hx=>hlt x (by simp [hx]),trodAll_below hl hb ts vs' ds' q (fun t ht=>hT t (by simp [ht])) hrest fun x hx=>hlt x (by simp [hx]),rfl⟩
end
theorem below_of_evo {E:Env} {M M':Mem} {h h':Heap} {W W':World} (hn:∀ b,¬ Had 0 M h b) (ev:Evo E 0 M h W M' h' W'):Below W.heap.size W W' :=
 ⟨ev.os,ev.tape,ev.output,ev.size,fun k hk=>ev.block k hk (hn k)⟩
theorem law_contractG {H:Type} {enc:TypeId × Value→H} {E:Env} (hP:OkProg E.P) (hO:OrcSound E) (hl:laidOutB E.P=true) (hm:mapsRowed E.P=true) {tl:List TypeId} (hL:closedT E.P tl=true)
  {f:FuncId} {fn:Func} {s:ChangeSpec} {apart fresh handsOn:Bool} (hts:∀ t∈fn.params.toList,t∈tl∧E.P.readableRec t=true∧t<E.P.types.size) (hsv:s.vars=[]) {tb:TypeId} (hres:fn.resultTypes=#[tb]) (htb:E.P.underlying tb=some .bool)
  (hspec:∀ ds:List (DataW H),ds.length=fn.params.size→s.fn H ds = { results:=[.lit (.bool true)],args:=ds,vars:=[] })
  (hlaw:∀ tr:List Value,tr.length=fn.params.size→(∀ (j:Nat) t u,fn.params.toList[j]?=some t→tr[j]?=some u→∃ n c,Wt E.P n t c∧u=elemV E.P t c)→∃ h',L E f tr [] 0=some (.bool true,h'))
  {W:World} {base:Nat} {args:Array Value} {ds gs:List (DataW H)} {before:List MemPlace}
  (hglob:∀ g v,E.glob g=some v→VRel ⟨fun _=>none,cellsW W⟩ (cptr v) (.pointer (some ⟨g,0,none⟩))) (hany:∀ g∈E.gany,∃ m,W.cell? ⟨g,0,none⟩=some (.int .i64 m)) (htabs:∀ g cs,(g,cs)∈E.tabs→∃ ty fz,W.heap[g]?=some (.cells cs ty fz))
  (hval:∀ (j:Nat) t v,fn.params[j]?=some t→args[j]?=some v→Value.okWide E.P W .any base t v)
  (hW:DataW.Whole enc E.P fn.params.toList s.vars apart W args.toList ds gs before) (hwt:(DataW.weightsEach E.P (fn.params.toList++s.plain.varTypes E.P) (ds++gs)).all (·≤reachBytes)=true) :
  Calls E.P f args W fun e W'=>∃ v,e=.returned v∧s.post enc E.P fn apart fresh handsOn false W args v W':=by
 have hW':=hW
 obtain ⟨p,q,hA,hV,hpq,hfz,hnd⟩:=hW
 rw [hsv] at hV
 obtain ⟨rfl,rfl⟩:gs=[]∧q=[]:=by
  cases gs with
  | nil=>exact ⟨rfl,hV⟩
  | cons=>exact hV.elim
 rw [List.append_nil] at hpq
 subst hpq
 obtain ⟨tr,k1,k2,k3⟩:=tree_args (W:=W) hl hm hL fn.params.toList args.toList ds before (fun t ht=>(hts t ht).1) hA (fun j t v ht hv=>hval j t v (by simpa using ht) (by simpa using hv)) fun w hw=>by
  rw [List.append_nil] at hwt
  exact of_decide_eq_true (List.all_eq_true.1 hwt w (weights_pre _ _ _ w hw))
 obtain ⟨h',hL'⟩:=hlaw tr (by simpa using k2) k3
 have hs0:HSim E W.heap.size ⟨fun _=>none,cellsW W⟩ [] W :=
  ⟨hglob,fun _ _ _ h=>h,fun o l hl=>(by cases hl),Nat.le_refl _,fun o l hl=>(by cases hl),fun o l t c g hl=>(by cases hl),fun o l es ck hl=>(by cases hl),fun o₁ o₂ l₁ l₂ hl=>(by cases hl),hany,fun g cs hg=>⟨by obtain ⟨ty,fz,e⟩:=htabs g cs hg;exact (Array.getElem?_eq_some_iff.1 e).1,htabs g cs hg⟩⟩
 refine ((L_sound hP hO).snd f tr [] 0 _ _ hL' (Nat.le_refl _) _ _ W args hs0 ⟨k1.1,fun i u u' hu hu'=>TRel.toV (M:=⟨fun _=>none,cellsW W⟩) (k1.2 i u u' hu hu')⟩).mono ?_
 rintro e W' ⟨v',rfl,M2,q1,q2,q3⟩
 have hb:Below W.heap.size W W':=below_of_evo (by rintro b ⟨o,l,_,hl,_⟩;cases hl) q3
 obtain rfl:=q1.bool
 have hlt:∀ x∈before,x.block<W.heap.size:=fun x hx=>hW'.lt x hx
 have hdl:ds.length=fn.params.size:=by
  have:∀ (ts:List TypeId) (vs:List Value) (ds:List (DataW H)) (ps:List MemPlace),DataW.TrodAll enc E.P W 0 (fun _=>true) true ts vs ds ps→ds.length=ts.length:=by
   intro ts
   induction ts with
   | nil=>intro vs ds ps h;cases vs <;> cases ds <;> first | rfl | exact h.elim
   | cons t ts ih =>
    intro vs ds ps h
    obtain ⟨v,vs',d,ds',p,q,rfl,rfl,rfl,hd,hrest⟩:=trodAll_cons h
    simp [ih _ _ _ hrest]
  simpa using this _ _ _ _ hA
 have hsp:=hspec ds hdl
 refine ⟨_,rfl,ds,[],before,[],before,[],hW',?_,?_,?_,hb.frame _ |> World.keptBut_mono fun p hp=>⟨hp,.inr (.inl hp)⟩,fun h=>by cases h⟩
 ·rw [List.append_nil,hsp,hres]
  exact ⟨[],[],shut_bool htb true,rfl,rfl⟩
 ·rw [List.append_nil,hsp]
  exact trodAll_below hl hb _ _ _ _ (fun t ht=>(hts t ht).2) hA hlt
 ·rw [List.append_nil,hsp,hsv]
  rfl
end Go.Proofs.YtplebjehcgcdeaaGreatDoor.Bm
