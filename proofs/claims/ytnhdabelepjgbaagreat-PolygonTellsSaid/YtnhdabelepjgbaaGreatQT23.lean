/-
 Chapter 07: what a polygon is, walked. Conditions: lists that are not too long.
-/
import Derived.Test.YtnhdabelepjgbaaGreatQT16
import Derived.Shelf.SlSortCmp.Whole1
import Derived.Shelf.SlSortCmp.NoneTotal
import Derived.Test.YtnhdabelepjgbaaGreatChecked
import Derived.Test.YtnhdabelepjgbaaGreatQT22
import Derived.Test.YtnhdabelepjgbaaGreatQT12
import Derived.Test.YtnhdabelepjgbaaGreatQT19
import Derived.Test.YtnhdabelepjgbaaGreatQT20
import Derived.Test.YtnhdabelepjgbaaGreatRows
namespace Go.Proofs.YtnhdabelepjgbaaGreat.Bm
open Go Go.RowKit Go.Shelf Go.Sort
structure TreeCon (E:Env) (f q:FuncId) (F:List Value→Option (List Value)):Prop where
 row:∀ (Φ:Phi) (blk off cap:Nat) (c d cs:List Value) (w:World),F c=some d→cs.length=c.length→(∀ (i:Nat) v v',c[i]?=some v→cs[i]?=some v'→TRel Φ v v') →
  (∀ b o v,Φ b o=some v→w.cell? ⟨b,o,none⟩=some v∧b≠blk)→(∀ g v,E.glob g=some v→TRel Φ (cptr v) (.pointer (some ⟨g,0,none⟩))) →
  Holds id w blk off cs.toArray→blk<w.heap.size→0<c.length→c.length<4611686018427387904→c.length≤cap →
  Calls E.P f #[.slice (some ⟨blk,off,none⟩) c.length cap,.func (.func q) #[] #[]] w fun e w'=>e=.returned (.tuple #[])∧∃ (ds:List Value) (m:Nat) (os:Array Obj),ds.length=d.length∧(∀ (i:Nat) v v',d[i]?=some v→ds[i]?=some v'→TRel Φ v v')∧w'=grow (putRow id (Go.Sort.ahead w m) blk off ds.toArray) os
 none:∀ (p:Option Addr) (cap:Nat) (w:World),Calls E.P f #[.slice p 0 cap,.func (.func q) #[] #[]] w fun e w'=>e=.returned (.tuple #[])∧w'=w
 dfd:∃ fn,E.P.funcs[f]?=some fn∧fn.body.isSome=true
 len:∀ c d,F c=some d→d.length=c.length
 tree:∀ c d,F c=some d→(∀ v∈c,(keyT v).isSome=true)∧∀ v∈d,v∈c
theorem key_rel {Φ:Phi} {v v':Value} (h:(keyT v).isSome=true) (hr:TRel Φ v v'):v'.oneCell'=true:=by
 obtain ⟨k,x,y,l,hk,rfl,_⟩:=key_tree h
 rcases hr.lstSome hk with ⟨rfl,h⟩ | ⟨a',cap',s,f,rfl,_⟩
 ·cases h
 ·rfl
theorem putCells_map {α:Type} [Inhabited α] (enc:α→Value) (off:Nat) (d:Array α) (c:Array Value):putCells enc off d c=putCells id off (d.map enc) c:=by
 unfold putCells
 congr 1
 funext k x
 rw [Array.size_map]
 by_cases h:off≤k∧k<off+d.size
 ·rw [if_pos h,if_pos h]
  have hk:k-off<d.size:=by omega
  simp [hk]
 ·rw [if_neg h,if_neg h]
theorem past_grow {w w':World} (h:Past w w'):∃ q os,w'=grow (w.drewN q) os:=by
 refine ⟨w'.drawn-w.drawn,w'.heap.extract w.heap.size w'.heap.size,?_⟩
 have hh:w'.heap=w.heap++w'.heap.extract w.heap.size w'.heap.size:=by
  apply Array.ext_getElem?
  intro i
  by_cases hi:i<w.heap.size
  ·rw [Array.getElem?_append_left hi,h.block i hi]
  ·rw [Array.getElem?_append_right (by omega),Array.getElem?_extract]
   have hs:=h.size
   by_cases h2:i<w'.heap.size
   ·rw [if_pos (by omega)]
    congr 1;omega
   ·rw [if_neg (by omega),Array.getElem?_eq_none (by omega)]
 obtain ⟨h1,h2,h3,h4,_,_⟩:=h
 cases w;cases w'
 simp only [World.drewN,grow] at *
 subst h1;subst h2;subst h3
 congr 1
 omega
theorem ltK_swo {α:Type} (f:α→Int × Int):SWO (ltOf fun x y=>cmpK (f x) (f y)):=by
 have e:∀ x y,ltOf (fun x y=>cmpK (f x) (f y)) x y=ltK (f x) (f y):=fun x y=>cmpK_neg _ _
 refine ⟨fun x=>?_,fun x y z h1 h2=>?_,fun x y z h1 h2=>?_⟩
 ·rw [e,ltK_false];omega
 ·rw [e,ltK_iff] at *; omega
 ·rw [e,ltK_false] at *; omega
theorem sim_none {E:Env} {Φ:Phi} {W:World} (hg:∀ g v,E.glob g=some v→TRel Φ (cptr v) (.pointer (some ⟨g,0,none⟩))) (hp:∀ b o v,Φ b o=some v→W.cell? ⟨b,o,none⟩=some v):HSim E 0 ⟨fun _=>none,Φ⟩ [] W where
 glob g v h:=(hg g v h).toV
 phi b o v h:=hp b o v h
 sep o l h:=by cases h
 base:=Nat.zero_le _
 dom o l h:=by cases h
 obj o l t c g h:=by cases h
 mp o l es ck h:=by cases h
 inj o₁ o₂ l₁ l₂ h:=by cases h
theorem cmp_calls {E:Env} (hC:CSound E (L E)) {q:FuncId} {Φ:Phi} {W:World} (hg:∀ g v,E.glob g=some v→TRel Φ (cptr v) (.pointer (some ⟨g,0,none⟩))) (hp:∀ b o v,Φ b o=some v→W.cell? ⟨b,o,none⟩=some v)
  {a b a' b':Value} {z:Int} (ha:TRel Φ a a') (hb:TRel Φ b b') (h:pureCall E.P (L E) q [a,b]=some (.int .i64 z)) :
  Calls E.P q #[a',b'] W fun e w'=>e=.returned (.int .i64 z)∧∃ q os',w'=grow (W.drewN q) os':=by
 have key:=pure_sound (f:=q) (args:=[a,b]) (args':=#[a',b']) (r:=.int .i64 z) hC (sim_none hg hp) (Ψ:=Φ) (fun _ _ _ h=>h) hp (VRels.cons (ha.toV) (VRels.cons (hb.toV) VRels.nil)) h
 refine key.mono ?_
 rintro e w' ⟨v',rfl,hpast,hr⟩
 have:v'=.int .i64 z:=by
  have hv:=RRel.toV (M:=⟨fun _=>none,after Φ W w'⟩) hr
  exact atom_same rfl hv
 rw [this]
 exact ⟨rfl,past_grow hpast⟩
theorem sortWorld_cell {α:Type} [Inhabited α] {enc:α→Value} {w:World} {blk off m:Nat} {dk:Array α} {os:Array Obj} {b o:Nat} {v:Value} (h:w.cell? ⟨b,o,none⟩=some v) (hb:b≠blk):(sortWorld enc w blk off m dk os).cell? ⟨b,o,none⟩=some v:=by
 have hlt:=cell_lt h
 have e:(sortWorld enc w blk off m dk os).heap[b]?=w.heap[b]?:=by
  unfold sortWorld grow putRow mapBlock Go.Sort.ahead
  simp only
  rw [Array.getElem?_append_left (by rw [Array.size_modify];exact hlt),Array.getElem?_modify]
  rw [if_neg (fun e=>hb e.symm)]
 rw [← h]
 exact World.cell?_of_block e
set_option maxHeartbeats 1000000 in
theorem ts_con {E:Env} {ρ:Ren} (hL:Go.Proofs.SlLaysF.n6 E.P ρ) (hC:CSound E (L E)) {q:FuncId} (eg:∀ args w,(callFunc q args).run E.P w=.ok (.enter q args) w)
  (hclo:∀ a b,(keyT a).isSome=true→(keyT b).isSome=true→pureCall E.P (L E) q [a,b]=some (.int .i64 (cmpK (keyD a) (keyD b))))
  (hnone:∀ (p:Option Addr) (cap:Nat) (w:World),Calls E.P (ρ.f 6) #[.slice p 0 cap,.func (.func q) #[] #[]] w fun e w'=>e=.returned (.tuple #[])∧w'=w)
  (hdfd:∃ fn,E.P.funcs[ρ.f 6]?=some fn∧fn.body.isSome=true):TreeCon E (ρ.f 6) q sortPF where
 none:=hnone
 dfd:=hdfd
 len c d h:=by
  unfold sortPF at h
  split at h
  ·cases h;exact List.length_mergeSort ..
  ·cases h
 tree c d h:=by
  unfold sortPF at h
  split at h
  ·rename_i hk
   cases h
   unfold okK at hk
   rw [Bool.and_eq_true] at hk
   exact ⟨List.all_eq_true.1 hk.1,fun v hv=>List.mem_mergeSort.1 hv⟩
  ·cases h
 row Φ blk off cap c d cs w hF hcs hrel hΦ hg hH hblk h0 hbig hcap:=by
  unfold sortPF at hF
  split at hF
  case isFalse=>cases hF
  rename_i hk
  cases hF
  unfold okK at hk
  rw [Bool.and_eq_true,decide_eq_true_eq] at hk
  obtain ⟨hk1,hk2⟩:=hk
  have hk1:=List.all_eq_true.1 hk1
  have hinh:Inhabited (Fin c.length):=⟨⟨0,h0⟩⟩
  let enc:Fin c.length→Value:=fun i=>cs[i.val]'(by rw [hcs];exact i.isLt)
  let key:Fin c.length→Int × Int:=fun i=>keyD c[i.val]
  have hkey:∀ i:Fin c.length,(keyT c[i.val]).isSome=true:=fun i=>hk1 _ (List.getElem_mem _)
  have htr:∀ i:Fin c.length,TRel Φ c[i.val] (enc i):=fun i=>hrel i.val _ _ (List.getElem?_eq_getElem i.isLt) (List.getElem?_eq_getElem (by rw [hcs];exact i.isLt))
  have h1:OneCell enc:=fun i=>key_rel (hkey i) (htr i)
  let D:Array (Fin c.length):=(List.finRange c.length).toArray
  have hDs:D.size=c.length:=by simp [D]
  have hDg:∀ j (hj:j<c.length),D[j]! = ⟨j,hj⟩:=fun j hj=>by
   have:j<D.size:=by omega
   rw [getElem!_pos D j this]
   simp [D]
  have hHe:Holds enc w blk off D:=fun j hj=>by
   have hj':j<c.length:=by omega
   have:=hH j (by simpa [hcs] using hj')
   rw [hDg j hj']
   have e:id (cs.toArray[j]!)=enc ⟨j,hj'⟩:=arr_get (by omega)
   rw [e] at this
   exact this
  have hcmp:CmpLays1 E.P q #[] enc (fun x y=>cmpK (key x) (key y)) blk off D.size w:=fun m os dk _ x y =>
   cmp_calls hC hg (fun b o v hv=>sortWorld_cell (hΦ b o v hv).1 (hΦ b o v hv).2) (htr x) (htr y) (hclo _ _ (hkey x) (hkey y))
  have hT:∀ x y,ltOf (fun x y=>cmpK (key x) (key y)) x y=false→ltOf (fun x y=>cmpK (key x) (key y)) y x=false→x=y:=fun x y a b=>by
   have a:ltK (key x) (key y)=false:=(cmpK_neg _ _).symm.trans a
   have b:ltK (key y) (key x)=false:=(cmpK_neg _ _).symm.trans b
   rw [ltK_false] at a b
   have e:key x=key y:=Prod.ext (by omega) (by omega)
   have e2:(c.map keyD)[x.val]'(by rw [List.length_map];exact x.isLt)=(c.map keyD)[y.val]'(by rw [List.length_map];exact y.isLt):=by
    rw [List.getElem_map,List.getElem_map];exact e
   exact Fin.ext ((List.getElem_inj hk2).1 e2)
  have con:=Any.slices_SortFunc_total hL enc h1 (fun x y=>cmpK (key x) (key y)) (ltK_swo key) q #[] blk off cap D w eg hcmp hHe hblk (by rw [hDs];exact hbig) hT
  rw [hDs] at con
  refine con.mono ?_
  rintro e w' ⟨he,m,os,hw⟩
  refine ⟨he,(D.toList.mergeSort fun x y=>!ltOf (fun x y=>cmpK (key x) (key y)) y x).map enc,m,os,?_,?_,?_⟩
  ·rw [List.length_map,List.length_mergeSort,List.length_mergeSort]
   simp [D]
  ·have e1:c.mergeSort leV=(D.toList.mergeSort fun x y=>!ltOf (fun x y=>cmpK (key x) (key y)) y x).map fun i=>c[i.val]:=by
    have e2:c=D.toList.map fun i=>c[i.val]:=by
     apply List.ext_getElem
     ·simp [D]
     ·intro j a b
      simp [D]
    have:=List.map_mergeSort (r:=fun x y=>!ltOf (fun x y=>cmpK (key x) (key y)) y x) (s:=leV) (f:=fun i:Fin c.length=>c[i.val]) (l:=D.toList) fun x _ y _=>by
     show (!decide (cmpK (key y) (key x)<0))=(!ltK (keyD c[y.val]) (keyD c[x.val]))
     rw [cmpK_neg]
    rw [this,← e2]
   intro i v v' hv hv'
   rw [e1,List.getElem?_map] at hv
   rw [List.getElem?_map] at hv'
   cases hx:(D.toList.mergeSort fun x y=>!ltOf (fun x y=>cmpK (key x) (key y)) y x)[i]? with
   | none=>rw [hx] at hv;cases hv
   | some k =>
    rw [hx] at hv hv'
    cases hv;cases hv'
    exact htr k
  ·rw [hw]
   unfold sortWorld putRow
   congr 1
   congr 1
   funext cc
   rw [putCells_map]
   simp
section
variable {E:Env} {B lo:Nat} {M:Mem} {h h':Heap} {w:World}
theorem ts_sound {f q:FuncId} {F:List Value→Option (List Value)} (hC:TreeCon E f q F) {args:List Value} {v:Value} (hr:inC q 1 F args h lo=some (v,h')) (_hlo:lo≤h.length) (args':Array Value) (hs:HSim E B M h w) (hv:VRels M args args'.toList) :
  Calls E.P f args' w fun e w'=>∃ v',e=.returned v'∧Out E B lo M h w v h' v' w':=by
 have nothing:∀ (r:Option Addr) (cap:Nat),Calls E.P f #[.slice r 0 cap,.func (.func q) #[] #[]] w fun e w'=>∃ v',e=.returned v'∧Out E B lo M h w (.tuple #[]) h v' w':=fun r cap =>
  (hC.none r cap w).mono fun e w' he=>⟨_,he.1,by rw [he.2];exact ⟨M,.top _,hs,.refl hs lo⟩⟩
 have two:∀ {u:Value} {p:FuncId},args=[u,.func (.func p) ⟨[]⟩ ⟨[]⟩]→∃ u',args'=#[u',.func (.func p) #[] #[]]∧VRel M u u':=by
  intro u p e
  subst e
  obtain ⟨u',hu,r1⟩:=hv.get (i:=0) (u:=u) rfl
  obtain ⟨w',hw,r2⟩:=hv.get (i:=1) (u:=.func (.func p) ⟨[]⟩ ⟨[]⟩) rfl
  have hl2:args'.toList.length=2:=hv.1.symm
  have:w'=.func (.func p) #[] #[]:=by
   obtain ⟨x',y',rfl,hx,hy,_⟩:=r2.funcSome
   rw [Array.eq_empty_of_size_eq_zero hx.symm,Array.eq_empty_of_size_eq_zero hy.symm]
  subst this
  refine ⟨u',?_,r1⟩
  apply Array.ext'
  match hm:args'.toList,hl2 with
  | [a,b],_ =>
   rw [hm] at hu hw
   cases hu;cases hw;rfl
 unfold inC at hr
 split at hr
 ·rename_i a n c p
  obtain ⟨v1,rfl,hrel⟩:=two rfl
  split at hr
  case isFalse=>cases hr
  rename_i hpn
  obtain ⟨rfl,hnc⟩:=hpn
  split at hr
  ·rename_i h0
   cases hr;subst h0
   rcases hrel.sliceSome with ⟨a',c',rfl,_,_⟩ | ⟨rfl,_,rfl,_⟩
   ·exact nothing (some a') c'
   ·exact nothing none 0
  ·rename_i h0
   unfold inCR at hr
   split at hr
   case h_2=>cases hr
   rename_i t row g hob
   simp only [Option.bind_eq_some_iff,Option.ite_none_right_eq_some,Option.some.injEq,Prod.mk.injEq] at hr
   obtain ⟨d,hd,⟨h1,hst,hoff0,hn,hbig⟩,rfl,rfl⟩:=hr
   simp only [Nat.mul_one] at hd hn
   have hcl:(row.take n).length=n:=by rw [List.length_take];omega
   have hdl0:=hC.len _ _ hd
   rw [hcl] at hdl0
   obtain ⟨htr1,htr2⟩:=hC.tree _ _ hd
   rcases hrel.sliceSome with ⟨a',c',rfl,hlc,hcap⟩ | ⟨_,h0',_⟩
   case inr=>exact absurd h0' h0
   obtain ⟨l,hl,hcap⟩:=hcap
   obtain ⟨hg,hlen,hnr,hre⟩:=hs.obj _ l t row g hl hob
   have hreal:l.real:=by
    by_cases hr:l.real
    ·exact hr
    ·have:=hnr hr;rw [this] at hn;simp at hn;omega
   obtain ⟨cs,ty,hb,hsz,hoff,hc⟩:=hre hreal
   have ha:a'=⟨l.blk,l.off,none⟩∧c≤c':=by
    unfold stampOk at hst
    split at hst
    ·rename_i e
     rw [e] at hcap
     rcases hcap.2.2 with k | k
     ·have:=hcap.2.1;omega
     ·exact ⟨by rw [k,hoff0];rfl,by have:=hcap.2.1;omega⟩
    ·rename_i k g0 e
     rw [e] at hcap
     have:=hcap.2.2 ((hlen (by omega)).trans (beq_iff_eq.1 hst).symm)
     rcases this.2 with k | k
     ·omega
     ·exact ⟨by rw [k.1,hoff0];rfl,this.1⟩
    ·cases hst
   obtain ⟨rfl,hcc⟩:=ha
   have hlt:=((hs.dom _ l hl).2 hreal).2
   have hcv:∀ j (hj:j<n),∃ v',cs[l.off+j]?=some v'∧TRel M.phi ((row.take n)[j]'(by omega)) v':=by
    intro j hj
    have hj':row[j]?=some ((row.take n)[j]'(by omega)):=by
     rw [List.getElem_take]
     exact List.getElem?_eq_getElem (by omega)
    obtain ⟨_,v',q1,q2⟩:=hc j _ hj'
    obtain ⟨k,x,y,l',_,e,_⟩:=key_tree (htr1 _ (List.getElem_mem (l:=row.take n) (n:=j) (by omega)))
    rw [e] at q2 ⊢
    exact ⟨v',q1,q2.treeSome⟩
   obtain ⟨cl,hcll,hclg⟩:∃ cl:List Value,cl.length=n∧∀ j,j<n→cl[j]?=cs[l.off+j]?:=by
    refine ⟨(cs.toList.drop l.off).take n,?_,fun j hj=>?_⟩
    ·rw [List.length_take,List.length_drop]
     have:=hn
     simp only [Array.length_toList]
     omega
    ·rw [List.getElem?_take,if_pos hj,List.getElem?_drop,Array.getElem?_toList]
   have hH:Holds id w l.blk l.off cl.toArray:=by
    intro j hj
    have hj:j<n:=by simpa [hcll] using hj
    obtain ⟨v',q1,_⟩:=hcv j hj
    refine ⟨?_,?_⟩
    ·simp only [World.cell?,hb,Option.isSome_none,Bool.false_eq_true,if_false]
     have hjj:j<cl.length:=by omega
     rw [← hclg j hj,List.getElem?_eq_getElem hjj]
     exact congrArg some (arr_get hjj).symm
    ·simp only [World.frozen?,hb];simp
   have halive:alive h a.block:=⟨_,hob,by simp⟩
   have con:=hC.row M.phi l.blk l.off c' (row.take n) d cl w hd (by omega) (fun j v v' hv hv'=>by
    have hj:j<n:=by
     have:=(List.getElem?_eq_some_iff.1 hv).1
     omega
    obtain ⟨u,q1,q2⟩:=hcv j hj
    rw [hclg j hj,q1] at hv'
    cases hv'
    rw [List.getElem?_eq_getElem (by omega)] at hv
    cases hv
    exact q2) (fun b o v k=>⟨hs.phi b o v k,fun e=>by rw [e,hs.sep _ l hl halive hreal o] at k;cases k⟩) (fun g v k=>(hs.glob g v k).treeSome) hH hlt (by omega) (by omega) (by omega)
   rw [hcl] at con
   refine con.mono fun e w' he=>⟨_,he.1,?_⟩
   obtain ⟨ds,m,os,hdsl,hdsr,rfl⟩:=he.2
   have p1:Past w (Go.Sort.ahead w m):=⟨rfl,rfl,rfl,Nat.le_add_right _ _,Nat.le_refl _,fun _ _=>rfl⟩
   have s1:HSim E B M h (Go.Sort.ahead w m):=hs.past p1 (Ψ:=M.phi) (fun _ _ _ k=>k) (fun b x v k=>hs.phi b x v k) (fun _ _ _=>rfl)
   have v1:Evo lo M h w M h (Go.Sort.ahead w m):=Evo.past hs p1 (Ψ:=M.phi) (fun _ _ _ k=>k) (fun _ _ _=>rfl) lo
   have hb1:(Go.Sort.ahead w m).heap[l.blk]?=some (.cells cs ty (0,0)):=hb
   rw [put_eqV hb1]
   have hdl:(d++row.drop (n * 1)).length=row.length:=by rw [List.length_append,hdl0,List.length_drop];omega
   have hput:=s1.put (lo:=lo) (t:=t) (c:=row) (d:=d++row.drop (n * 1)) (g:=g) (cs:=putCells id l.off ds.toArray cs) hl hob hreal h1 (by simp [putCells,hsz]) (by rw [hdl];exact hoff) (.inl hdl) (fun j v hj=>by
    by_cases hjn:j<n
    ·rw [List.getElem?_append_left (by rw [hdl0];exact hjn)] at hj
     obtain ⟨v',hv'⟩:∃ v',ds[j]?=some v':=⟨ds[j]'(by omega),List.getElem?_eq_getElem (by omega)⟩
     have hone:one v=true:=key_one (htr1 _ (htr2 _ (List.mem_of_getElem? hj)))
     refine ⟨hone,v',?_,(hdsr j v v' hj hv').toV⟩
     obtain ⟨u,q1,_⟩:=hcv j hjn
     rw [putCells_getV,q1]
     have:l.off≤l.off+j∧l.off+j<l.off+ds.toArray.size:=⟨by omega,by simp;omega⟩
     simp only [Option.map_some,this,and_self,if_true]
     have hjd:j<ds.length:=by omega
     rw [List.getElem?_eq_getElem hjd] at hv'
     cases hv'
     simp [hjd]
    ·rw [List.getElem?_append_right (by omega),hdl0,List.getElem?_drop,show n * 1+(j-n)=j by omega] at hj
     obtain ⟨q1,v',q2,q3⟩:=hc j v hj
     refine ⟨q1,v',?_,q3⟩
     rw [putCells_getV,q2]
     have:¬ (l.off≤l.off+j∧l.off+j<l.off+ds.toArray.size):=by simp;omega
     simp only [Option.map_some,this,if_false])
   have hsame:M.put a.block { l with len:=if g=0 then l.len else (d++row.drop (n * 1)).length } = M:=by
    refine put_same ?_
    rw [hl]
    by_cases h0:g=0
    ·simp [h0]
    ·rw [if_neg h0,hdl,← hlen h0]
   simp only [hsame] at hput
   obtain ⟨s2,v2⟩:=hput
   have p3:Past ((Go.Sort.ahead w m).setRow l.blk (putCells id l.off ds.toArray cs)) (grow ((Go.Sort.ahead w m).setRow l.blk (putCells id l.off ds.toArray cs)) os) :=
    ⟨rfl,rfl,rfl,Nat.le_refl _,by simp [grow],fun b hb=>by simp only [grow];rw [Array.getElem?_append_left hb]⟩
   have ph:∀ b x v,M.phi b x=some v→(grow ((Go.Sort.ahead w m).setRow l.blk (putCells id l.off ds.toArray cs)) os).cell? ⟨b,x,none⟩=some v:=fun b x v k=>by
    have:=s2.phi b x v k
    have hlt:=cell_lt this
    simp only [World.cell?] at this ⊢
    rw [p3.block b hlt];exact this
   have s3:=s2.past p3 (Ψ:=M.phi) (fun _ _ _ k=>k) ph (fun _ _ _=>rfl)
   have v3:=Evo.past s2 p3 (Ψ:=M.phi) (fun _ _ _ k=>k) (fun _ _ _=>rfl) lo
   exact ⟨M,.top _,s3,(v1.trans v2).trans v3⟩
 ·rename_i p
  obtain ⟨v1,rfl,hrel⟩:=two rfl
  split at hr
  case isFalse=>cases hr
  rename_i hp
  subst hp
  cases hr
  obtain ⟨rfl,_,_⟩:=hrel.sliceNone
  exact nothing none 0
 ·cases hr
end
end Go.Proofs.YtnhdabelepjgbaaGreat.Bm
namespace Go.Proofs.YtnhdabelepjgbaaGreat
open Go Go.RowKit Go.Shelf Go.Sort
def laysPts_ren:Go.Shelf.Ren:=⟨fun | 6=>39 | 15=>45 | 14=>58 | 28=>71 | 29=>72 | 20=>83 | 21=>84 | 22=>85 | 23=>86 | 24=>87 | 25=>88 | 26=>89 | 27=>90 | 46=>100 | 47=>92 | 48=>93 | 49=>101 | 50=>102 | 57=>106 | n=>n,fun | 22=>33 | 24=>22 | 25=>66 | 3=>3 | 39=>72 | 0=>0 | 53=>100 | 55=>102 | 4=>4 | 46=>92 | 45=>91 | 50=>97 | 5=>5 | 9=>9 | 66=>115 | 70=>119 | 76=>133 | 77=>134 | n=>n,fun | n=>n⟩
theorem laysPts:Go.Proofs.SlLaysF.n6 Tryz.prog laysPts_ren:={
 mixed:=by kernel_rfl
 f6:=⟨Tryz.f39.name,by decide,Tryz.func39.trans (congrArg some (by kernel_rfl))⟩
 f14:=⟨Tryz.f58.name,by decide,Tryz.func58.trans (congrArg some (by kernel_rfl))⟩
 f15:=Tryz.func45.trans (congrArg some (by kernel_rfl))
 f20:=⟨Tryz.f83.name,by decide,Tryz.func83.trans (congrArg some (by kernel_rfl))⟩
 f21:=⟨Tryz.f84.name,by decide,Tryz.func84.trans (congrArg some (by kernel_rfl))⟩
 f22:=⟨Tryz.f85.name,by decide,Tryz.func85.trans (congrArg some (by kernel_rfl))⟩
 f23:=⟨Tryz.f86.name,by decide,Tryz.func86.trans (congrArg some (by kernel_rfl))⟩
 f24:=⟨Tryz.f87.name,by decide,Tryz.func87.trans (congrArg some (by kernel_rfl))⟩
 f25:=⟨Tryz.f88.name,by decide,Tryz.func88.trans (congrArg some (by kernel_rfl))⟩
 f26:=⟨Tryz.f89.name,by decide,Tryz.func89.trans (congrArg some (by kernel_rfl))⟩
 f27:=⟨Tryz.f90.name,by decide,Tryz.func90.trans (congrArg some (by kernel_rfl))⟩
 f28:=Tryz.func71.trans (congrArg some (by kernel_rfl))
 f29:=Tryz.func72.trans (congrArg some (by kernel_rfl))
 f46:=⟨Tryz.f100.name,by decide,Tryz.func100.trans (congrArg some (by kernel_rfl))⟩
 f47:=Tryz.func92.trans (congrArg some (by kernel_rfl))
 f48:=Tryz.func93.trans (congrArg some (by kernel_rfl))
 f49:=⟨Tryz.f101.name,by decide,Tryz.func101.trans (congrArg some (by kernel_rfl))⟩
 f50:=⟨Tryz.f102.name,by decide,Tryz.func102.trans (congrArg some (by kernel_rfl))⟩
 f57:=⟨Tryz.f106.name,by decide,Tryz.func106.trans (congrArg some (by kernel_rfl))⟩
 t0:=Tryz.underlying0
 a0:=Tryz.isAgg0
 z0:=Tryz.sizeOf0
 v0:=Tryz.zeroValue0
 t3:=Tryz.underlying3
 a3:=Tryz.isAgg3
 z3:=Tryz.sizeOf3
 v3:=Tryz.zeroValue3
 t4:=Tryz.underlying4
 a4:=Tryz.isAgg4
 z4:=Tryz.sizeOf4
 v4:=Tryz.zeroValue4
 t5:=Tryz.underlying5
 a5:=Tryz.isAgg5
 z5:=Tryz.sizeOf5
 v5:=Tryz.zeroValue5
 t9:=Tryz.underlying9
 a9:=Tryz.isAgg9
 z9:=Tryz.sizeOf9
 v9:=Tryz.zeroValue9
 t22:=Tryz.underlying33
 a22:=Tryz.isAgg33
 z22:=Tryz.sizeOf33
 v22:=Tryz.zeroValue33
 a24:=Tryz.isAgg22
 z24:=Tryz.sizeOf22
 t25:=Tryz.underlying66
 a25:=Tryz.isAgg66
 z25:=Tryz.sizeOf66
 v25:=Tryz.zeroValue66
 t39:=Tryz.underlying72
 a39:=Tryz.isAgg72
 z39:=Tryz.sizeOf72
 v39:=Tryz.zeroValue72
 t45:=Tryz.underlying91
 a45:=Tryz.isAgg91
 z45:=Tryz.sizeOf91
 v45:=Tryz.zeroValue91
 t46:=Tryz.underlying92
 a46:=Tryz.isAgg92
 z46:=Tryz.sizeOf92
 v46:=Tryz.zeroValue92
 t50:=Tryz.underlying97
 a50:=Tryz.isAgg97
 z50:=Tryz.sizeOf97
 v50:=Tryz.zeroValue97
 t53:=Tryz.underlying100
 a53:=Tryz.isAgg100
 z53:=Tryz.sizeOf100
 v53:=Tryz.zeroValue100
 t55:=Tryz.underlying102
 a55:=Tryz.isAgg102
 z55:=Tryz.sizeOf102
 v55:=Tryz.zeroValue102
 t66:=Tryz.underlying115
 a66:=Tryz.isAgg115
 z66:=Tryz.sizeOf115
 v66:=Tryz.zeroValue115
 t70:=Tryz.underlying119
 a70:=Tryz.isAgg119
 z70:=Tryz.sizeOf119
 v70:=Tryz.zeroValue119
 t76:=Tryz.underlying133
 a76:=Tryz.isAgg133
 z76:=Tryz.sizeOf133
 v76:=Tryz.zeroValue133
 t77:=Tryz.underlying134
 a77:=Tryz.isAgg134
 z77:=Tryz.sizeOf134
 v77:=Tryz.zeroValue134 }
end Go.Proofs.YtnhdabelepjgbaaGreat
namespace Go.Proofs.YtnhdabelepjgbaaGreat.Bm
open Go Go.RowKit
open Rg (Pt)
theorem fn0 {f:FuncId} {r:RFn} (h:rfnOf E f=some r):rfnOf E0 f=some r:=by
 have e:E=topE E0 E.orc:=rfl
 rw [e,top_fn] at h
 exact h
theorem nan0 (z:Int):pureCall E0.P (L E0) 73 [.int .i64 z]=some (.bool false):=by
 rw [pureCall_fn (fn0 F73) rfl]
 simp -implicitDefEqProofs [r73,padS]
theorem cmp0 (a b:Int):pureCall E0.P (L E0) 47 [.int .i64 a,.int .i64 b]=some (.int .i64 (cmpI a b)):=by
 have n1:=nan0 a
 have n2:=nan0 b
 rw [pureCall_fn (fn0 F47) rfl]
 unfold cmpI
 by_cases h1:a<b
 ·simp -implicitDefEqProofs [r47,padS,ret0 (E:=E0) (f:=73) rfl,n1,n2,h1]
 by_cases h2:b<a
 ·simp -implicitDefEqProofs [r47,padS,ret0 (E:=E0) (f:=73) rfl,n1,n2,h1,h2]
 simp -implicitDefEqProofs [r47,padS,ret0 (E:=E0) (f:=73) rfl,n1,n2,h1,h2]
theorem cor0 (l:List Int) (hl:l.length≤1000):pureCall E0.P (L E0) 46 [lst true (l.map (.int .i64))]=some (.int .i64 (orL l)):=by
 have ix:∀ (i:Nat) (hi:i<l.length),indexAddrT (.sl 3 ⟨some false,some 1⟩) (lst true (l.map (.int .i64))) (.int .i64 (i:Int))=some (cptr (.int .i64 l[i])):=fun i hi=>by
  have e:(l.map (Value.int .i64))[i]?=some (.int .i64 l[i]):=by simp [hi]
  rw [index_lst,if_pos (by omega),show ((i:Int)).toNat=i by omega,e,Option.bind_some,if_pos (by rfl)]
 have ln:∀ h,lenT .sl h (lst true (l.map (.int .i64)))=some (.int .i64 l.length):=fun h=>by rw [len_lst];simp
 rw [pureCall_fn (fn0 F46) rfl]
 simp -implicitDefEqProofs [r46,p46,ln]
 rw [LL_for (γ:=Unit) l () (fun i _=>[(8,.int .i64 i)]) (fun _ _=>[]) (fun _ rest _=>if orL rest=0 then (.exit 0,[(8,undef)],[]) else (.ret,[(2,.int .i64 (orL rest)),(8,undef)],[])) (fun _ _=>True) (by omega) trivial]
 ·by_cases h:orL l=0
  ·simp -implicitDefEqProofs [k46_3,h]
  ·simp -implicitDefEqProofs [k46_3,h]
 ·simp -implicitDefEqProofs [k46_3]
 ·rfl
 ·intro nx i c hi _
  simp -implicitDefEqProofs [r46_3,k46_3,hi,ln,trim_le,orL]
 ·intro nx i z rest c hi hv hd hw _ ih
  have ih:=ih () trivial
  have ixi:=ix i hi
  rw [hv] at ixi
  have eo:orL (z :: rest)=if z=0 then orL rest else z:=rfl
  rw [eo]
  simp -implicitDefEqProofs [k46_3] at ih
  by_cases hz:z=0
  ·subst hz
   simp -implicitDefEqProofs [r46_3,k46_3,hi,ln,ixi,hw,trim_le]
   exact ih
  ·simp -implicitDefEqProofs [r46_3,k46_3,hi,ln,ixi,hz,trim_le]
theorem compare0 (a b:Pt):pureCall E0.P (L E0) 25 [.agg ⟨[.int .i64 a.1,.int .i64 a.2]⟩,.agg ⟨[.int .i64 b.1,.int .i64 b.2]⟩]=some (.int .i64 (cmpP a b)):=by
 have c1:=cmp0 a.1 b.1
 have c2:=cmp0 a.2 b.2
 have c3:=cor0 [cmpI a.1 b.1,cmpI a.2 b.2] (by show 2≤1000;omega)
 have rf:∀ h (u v:Int),reify E0.P 8 h (lst true [.int .i64 u,.int .i64 v])=some (lst true [.int .i64 u,.int .i64 v]):=fun _ _ _=>rfl
 simp only [List.map_cons,List.map_nil] at c3
 rw [pureCall_fn (fn0 F25) rfl]
 unfold cmpP
 simp -implicitDefEqProofs [r25,padS,ret0 (E:=E0) (f:=47) rfl,c1,c2,lit_ints2,ret0 (E:=E0) (f:=46) rfl,rf,c3]
theorem cmpP_K (a b:Pt):cmpP a b=cmpK a b:=by
 unfold cmpP cmpK orL orL orL cmpI ltK
 simp only [Bool.or_eq_true,Bool.and_eq_true,decide_eq_true_eq]
 repeat' split
 all_goals omega
theorem first_ix {v:Value} (h:(keyT v).isSome=true):indexAddrT (.sl 42 ⟨some true,some 2⟩) v (.int .i64 0)=some (cptr (.agg ⟨[.int .i64 (keyD v).1,.int .i64 (keyD v).2]⟩)):=by
 obtain ⟨k,x,y,l,hk,rfl,e⟩:=key_tree h
 rw [e]
 have:k=0∨k=1:=by omega
 rcases this with rfl | rfl
 ·show indexAddrT (.sl 42 ⟨some true,some 2⟩) (lst false (.agg ⟨[.int .i64 x,.int .i64 y]⟩ :: l)) (.int .i64 0)=_
  rw [index_lst];rfl
 ·show indexAddrT (.sl 42 ⟨some true,some 2⟩) (lst true (.agg ⟨[.int .i64 x,.int .i64 y]⟩ :: l)) (.int .i64 0)=_
  rw [index_lst];rfl
theorem out0 (a b:Value) (ha:(keyT a).isSome=true) (hb:(keyT b).isSome=true):pureCall E0.P (L E0) 40 [a,b]=some (.int .i64 (cmpK (keyD a) (keyD b))):=by
 have i1:=first_ix ha
 have i2:=first_ix hb
 have c:=compare0 (keyD a) (keyD b)
 rw [cmpP_K] at c
 rw [pureCall_fn (fn0 F40) rfl]
 simp -implicitDefEqProofs [r40,p40,i1,i2,ret0 (E:=E0) (f:=25) rfl,c]
open Rg (Rect)
theorem okE:OkProg E.P:=okProg_of (by kernel_rfl) (by kernel_rfl)
theorem laidE:laidOutB E.P=true:=by kernel_rfl
theorem mapsE:mapsRowed E.P=true:=by kernel_rfl
noncomputable def tlE:List TypeId:=closeT E.P 6 [22,23]
theorem closedE:closedT E.P tlE=true:=by kernel_rfl
theorem in23:23∈tlE:=List.contains_iff_mem.1 (by kernel_rfl)
theorem in22:22∈tlE:=List.contains_iff_mem.1 (by kernel_rfl)
theorem ui:E.P.underlying 3=some (.int .i64):=by kernel_rfl
theorem u4:E.P.underlying 4=some .bool:=by kernel_rfl
theorem uRs:E.P.underlying 23=some (.slice 39):=by kernel_rfl
theorem fR:fsOf E.P 39=some [(0,3),(1,3),(2,3),(3,3)]:=by kernel_rfl
theorem nR:E.P.cellsOf 39=4:=by kernel_rfl
theorem ni:E.P.cellsOf 3=1:=by kernel_rfl
theorem gR:aggT E.P 39=some true:=by kernel_rfl
theorem gRs:aggT E.P 23=some false:=by kernel_rfl
theorem gi:aggT E.P 3=some false:=by kernel_rfl
def i64ok (z:Int):Prop:=-9223372036854775808≤z∧z≤9223372036854775807
def RectI (r:Rect):Prop:=i64ok r.x0∧i64ok r.y0∧i64ok r.x1∧i64ok r.y1
theorem rect_of {n:Nat} {c:List Value} (h:Wt E.P n 39 c):∃ r:Rect,c=rectR.enc r∧RectI r:=by
 obtain ⟨hl,hf⟩:=wt_struct fR h
 rw [nR] at hl
 obtain ⟨a0,c,rfl⟩:=List.exists_cons_of_length_eq_add_one hl;have hl:=Nat.succ.inj hl
 obtain ⟨a1,c,rfl⟩:=List.exists_cons_of_length_eq_add_one hl;have hl:=Nat.succ.inj hl
 obtain ⟨a2,c,rfl⟩:=List.exists_cons_of_length_eq_add_one hl;have hl:=Nat.succ.inj hl
 obtain ⟨a3,c,rfl⟩:=List.exists_cons_of_length_eq_add_one hl;have hl:=Nat.succ.inj hl
 obtain rfl:=List.eq_nil_of_length_eq_zero hl
 obtain ⟨m0,q0⟩:=hf (0,3) (by simp)
 replace q0:Wt E.P m0 3 [a0]:=by simpa [ni] using q0
 obtain ⟨m1,q1⟩:=hf (1,3) (by simp)
 replace q1:Wt E.P m1 3 [a1]:=by simpa [ni] using q1
 obtain ⟨m2,q2⟩:=hf (2,3) (by simp)
 replace q2:Wt E.P m2 3 [a2]:=by simpa [ni] using q2
 obtain ⟨m3,q3⟩:=hf (3,3) (by simp)
 replace q3:Wt E.P m3 3 [a3]:=by simpa [ni] using q3
 obtain ⟨z0,e,h0⟩:=wt_int ui q0;obtain rfl:=List.singleton_inj.1 e
 obtain ⟨z1,e,h1⟩:=wt_int ui q1;obtain rfl:=List.singleton_inj.1 e
 obtain ⟨z2,e,h2⟩:=wt_int ui q2;obtain rfl:=List.singleton_inj.1 e
 obtain ⟨z3,e,h3⟩:=wt_int ui q3;obtain rfl:=List.singleton_inj.1 e
 exact ⟨⟨z0,z1,z2,z3⟩,rfl,i64_wf h0,i64_wf h1,i64_wf h2,i64_wf h3⟩
theorem rects_of {n:Nat} {c:List Value} (h:Wt E.P n 23 c):∃ l:List Rect,c=[lst false (rectR.vals l)]∧l.length≤maxLen∧∀ r∈l,RectI r:=by
 obtain ⟨ls,rfl,h2,h3⟩:=wt_slice uRs h
 obtain ⟨rs,rfl,k2⟩:=choose_list (cells:=rectR.enc) (Q:=RectI) ls fun x hx=>by
  obtain ⟨m,hm⟩:=h3 x hx
  exact rect_of hm
 refine ⟨rs,?_,by simpa using h2,k2⟩
 have e:∀ l:List Rect,(l.map rectR.enc).map (elemV E.P 39)=rectR.vals l:=by
  intro l
  induction l with
  | nil=>rfl
  | cons r l ih =>
   rw [List.map_cons,List.map_cons,ih]
   unfold elemV
   rw [if_pos gR]
   rfl
 rw [e]
theorem rectsV {n:Nat} {c:List Value} (h:Wt E.P n 23 c):∃ l:List Rect,elemV E.P 23 c=lst false (rectR.vals l)∧l.length≤maxLen∧∀ r∈l,RectI r:=by
 obtain ⟨l,rfl,hl⟩:=rects_of h
 exact ⟨l,by simp [elemV,gRs],hl⟩
theorem uPs:E.P.underlying 22=some (.slice 42):=by kernel_rfl
theorem fP:fsOf E.P 42=some [(0,3),(1,3)]:=by kernel_rfl
theorem nP:E.P.cellsOf 42=2:=by kernel_rfl
theorem gP:aggT E.P 42=some true:=by kernel_rfl
theorem gPs:aggT E.P 22=some false:=by kernel_rfl
theorem pt_of {n:Nat} {c:List Value} (h:Wt E.P n 42 c):∃ v:Int × Int,c=spanR.enc v:=by
 obtain ⟨hl,hf⟩:=wt_struct fP h
 rw [nP] at hl
 obtain ⟨a0,c,rfl⟩:=List.exists_cons_of_length_eq_add_one hl;have hl:=Nat.succ.inj hl
 obtain ⟨a1,c,rfl⟩:=List.exists_cons_of_length_eq_add_one hl;have hl:=Nat.succ.inj hl
 obtain rfl:=List.eq_nil_of_length_eq_zero hl
 obtain ⟨m0,q0⟩:=hf (0,3) (by simp)
 replace q0:Wt E.P m0 3 [a0]:=by simpa [ni] using q0
 obtain ⟨m1,q1⟩:=hf (1,3) (by simp)
 replace q1:Wt E.P m1 3 [a1]:=by simpa [ni] using q1
 obtain ⟨z0,e,h0⟩:=wt_int ui q0;obtain rfl:=List.singleton_inj.1 e
 obtain ⟨z1,e,h1⟩:=wt_int ui q1;obtain rfl:=List.singleton_inj.1 e
 exact ⟨(z0,z1),rfl⟩
theorem pts_of {n:Nat} {c:List Value} (h:Wt E.P n 22 c):∃ l:List (Int × Int),c=[lst false (spanR.vals l)]:=by
 obtain ⟨ls,rfl,h2,h3⟩:=wt_slice uPs h
 obtain ⟨rs,rfl,k2⟩:=choose_list (cells:=spanR.enc) (Q:=fun _=>True) ls fun x hx=>by
  obtain ⟨m,hm⟩:=h3 x hx
  obtain ⟨v,e⟩:=pt_of hm
  exact ⟨v,e,trivial⟩
 refine ⟨rs,?_⟩
 have e:∀ l:List (Int × Int),(l.map spanR.enc).map (elemV E.P 42)=spanR.vals l:=by
  intro l
  induction l with
  | nil=>rfl
  | cons r l ih =>
   rw [List.map_cons,List.map_cons,ih]
   unfold elemV
   rw [if_pos gP]
   rfl
 rw [e]
theorem ptsV {n:Nat} {c:List Value} (h:Wt E.P n 22 c):∃ l:List (Int × Int),elemV E.P 22 c=lst false (spanR.vals l):=by
 obtain ⟨l,rfl⟩:=pts_of h
 exact ⟨l,by simp [elemV,gPs]⟩
theorem okE0:OkProg E0.P:=okE
theorem conPts:TreeCon E 39 40 sortPF:=by
 have c:TreeCon E0 (laysPts_ren.f 6) 40 sortPF:=ts_con (E:=E0) (ρ:=laysPts_ren) laysPts (L_sound okE0 (noOrc fun _=>rfl)) (q:=40)
  (enters_of Tryz.func40 (by kernel_rfl) rfl) out0 (fun p cap w=>Go.Proofs.AnyF.slices_SortFunc_none { laysPts with } p cap _ w) ⟨_,Tryz.func39,rfl⟩
 exact ⟨c.row,c.none,c.dfd,c.len,c.tree⟩
theorem orcE:OrcSound E:=by
 have key:∀ g k,E.orc g=some k→(∃ F N,k=inG F N∧SortCon E.P g F N)∨(∃ q m F,k=inC q m F∧CellCon E.P g q m F)∨∃ q F,k=inC q 1 F∧TreeCon E g q F:=fun g k h=>by
  rw [E_orc] at h
  by_cases h1:g=18
  ·subst h1;simp only [if_true,Option.some.injEq] at h;exact .inl ⟨_,_,h.symm,conSort⟩
  ·by_cases h2:g=19
   ·subst h2;simp only [h1,if_false,if_true,Option.some.injEq] at h;exact .inl ⟨_,_,h.symm,conComp⟩
   ·by_cases h0:g=39
    ·subst h0;simp only [h1,h2,if_false,if_true,Option.some.injEq] at h;exact .inr (.inr ⟨_,_,h.symm,conPts⟩)
    ·by_cases h3:g=104
     ·subst h3;simp only [h1,h2,h0,if_false,if_true,Option.some.injEq] at h;exact .inr (.inl ⟨_,_,_,h.symm,conSpan⟩)
     ·simp only [h1,h2,h0,h3,if_false] at h;cases h
 refine ⟨fun g k hg args h lo r _=>?_,fun g k hg args h lo v h' hr hlo B M w args' hs hv=>?_,fun g k hg args h lo v h' hr _=>?_⟩
 ·rcases key g k hg with ⟨F,N,_,hC⟩ | ⟨q,m,F,_,hC⟩ | ⟨q,F,_,hC⟩
  ·exact hC.dfd
  ·exact hC.dfd
  ·exact hC.dfd
 ·rcases key g k hg with ⟨F,N,rfl,hC⟩ | ⟨q,m,F,rfl,hC⟩ | ⟨q,F,rfl,hC⟩
  ·exact in_sound hC hr hlo args' hs hv
  ·exact inC_sound hC hr hlo args' hs hv
  ·exact ts_sound hC hr hlo args' hs hv
 ·rcases key g k hg with ⟨F,N,rfl,_⟩ | ⟨q,m,F,rfl,_⟩ | ⟨q,F,rfl,_⟩
  ·exact inG_keep hr
  ·exact inC_keep hr
  ·exact inC_keep hr
open Rg (Rect Pt sidesP upS crossB onB sd okI okJ crI crJ rightP allFr allFr_step allFr_end)
theorem ub7:E.P.underlying 4=some .bool:=by kernel_rfl
theorem beq (p q:Bool):aBin E.P .eql 4 (.bool p) (.bool q)=some (.bool (p == q)):=bin_eql_bool ub7
theorem bne (p q:Bool):aBin E.P .neq 4 (.bool p) (.bool q)=some (.bool (p != q)):=bin_neq_bool ub7
theorem side_index (p:List Pt) (j:Nat) (hj:j<p.length):indexAddrT (.sl 48 ⟨some true,some 4⟩) (lst false (sideR.vals (sidesP p))) (.int .i64 (j:Int))=some (cptr (sideR.val (sd p j))):=by
 have hs:j<(sidesP p).length:=by rw [Rg.sides_len];exact hj
 rw [Rg.sd_get hs]
 exact Rec.index_tree rfl hs
theorem sides_lenT (p:List Pt) (h:Heap):lenT .sl h (lst false (sideR.vals (sidesP p)))=some (.int .i64 p.length):=by
 rw [Rec.tree_len,Rg.sides_len]
theorem pt_index (x:Bool) (p:List Pt) (j:Nat) (hj:j<p.length):indexAddrT (.sl 42 ⟨some true,some 2⟩) (lst x (spanR.vals p)) (.int .i64 (j:Int))=some (cptr (spanR.val (p.getD j (0,0)))):=by
 have e:p.getD j (0,0)=p[j]:=by rw [List.getD_eq_getElem?_getD,List.getElem?_eq_getElem hj];rfl
 rw [e]
 exact Rec.index_tree rfl hj
set_option maxHeartbeats 2000000 in
theorem pright_spec (x:Bool) (p:List Pt) (hp:p.length≤1000000):pureCall E.P (L E) 8 [lst x (spanR.vals p)]=some (.bool (rightP p)):=by
 have ln:∀ h,lenT .sl h (lst x (spanR.vals p))=some (.int .i64 p.length):=fun h=>Rec.tree_len
 rw [pureCall_fn F8 rfl]
 by_cases h4:p.length<4
 ·have h4':(p.length:Int)<4:=by omega
  have e:rightP p=false:=by unfold rightP;rw [decide_eq_false (by omega)];rfl
  rw [e]
  simp -implicitDefEqProofs [r8,p8,ln,h4,h4']
 by_cases h60:60<p.length
 ·have h60':60<(p.length:Int):=by omega
  have h4':¬ ((p.length:Int)<4):=by omega
  have e:rightP p=false:=by unfold rightP;rw [decide_eq_false (show ¬ (p.length≤60) by omega),Bool.and_false];rfl
  rw [e]
  simp -implicitDefEqProofs [r8,p8,ln,h4,h4',h60,h60']
 have h4':¬ ((p.length:Int)<4):=by omega
 have h60':¬ (60<(p.length:Int)):=by omega
 have ar:=around_spec x p (by omega)
 have sln:=sides_lenT p
 have six:=side_index p
 have pix:=pt_index x p
 have hE:rightP p=(allFr (okI p) 0 p.length && (allFr (crI p) 0 p.length && !upS (sd p 0))):=by
  unfold rightP
  rw [decide_eq_true (show 4≤p.length by omega),decide_eq_true (show p.length≤60 by omega),Bool.true_and,Bool.true_and,Bool.and_assoc]
 rw [hE]
 clear hE
 generalize hSV:lst false (sideR.vals (sidesP p))=SV at *
 generalize hPV:lst x (spanR.vals p)=PV at *
 have sv0:settled depth PV=true:=by rw [← hPV];rfl
 simp -implicitDefEqProofs [r8,p8,ln,h4,h4',h60,h60',ret1 m20,sv0,ar,sln]
 rw [LL_rec (α:=Nat) 0 (fun i=>[(21,.int .i64 (i:Int))]) (fun _=>[]) (fun i=>if allFr (okI p) i (p.length-i) then (.exit 0,[(21,undef)],[]) else (.ret,[(2,.bool false),(21,undef)],[])) (fun i=>i≤p.length) (fun i=>p.length-i)]
 ·rw [Nat.sub_zero]
  cases hok:allFr (okI p) 0 p.length
  ·simp -implicitDefEqProofs [k8_5,sln]
  simp -implicitDefEqProofs [k8_5,sln]
  rw [LL_rec (α:=Nat) 0 (fun i=>[(78,.int .i64 (i:Int))]) (fun _=>[]) (fun i=>if allFr (crI p) i (p.length-i) then (.exit 2,[(78,undef)],[]) else (.ret,[(2,.bool false),(78,undef)],[])) (fun i=>i≤p.length) (fun i=>p.length-i)]
  ·rw [Nat.sub_zero]
   have i0:=six 0 (by omega)
   rw [side_val] at i0
   have u0:=up_spec (sd p 0)
   generalize upS (sd p 0)=u at *
   cases hcr:allFr (crI p) 0 p.length
   ·simp -implicitDefEqProofs [k8_14]
   ·have i0':indexAddrT (.sl 48 ⟨some true,some 4⟩) SV (.int .i64 0)=_:=i0
    simp -implicitDefEqProofs [k8_14,i0',ret0 m21,u0]
  ·exact Nat.zero_le _
  ·simp -implicitDefEqProofs [k8_14]
  ·rfl
  ·intro nx i hi ih
   by_cases h:i<p.length
   ·have h':(i:Int)<(p.length:Int):=by omega
    have ih:=ih (i+1) (by omega) (by omega)
    have wi:IntKind.i64.wrap ((i:Int)+1)=(i:Int)+1:=wrap64 (by omega) (by omega)
    have wi2:IntKind.i64.wrap ((i:Int)+2)=((i+2:Nat):Int):=(wrap64 (by omega) (by omega)).trans (by omega)
    have ii:=six i h
    rw [side_val] at ii
    rw [allFr_step h]
    generalize hq:allFr (crI p) (i+1) (p.length-(i+1))=q at ih ⊢
    have ecr:crI p i=allFr (crJ p i) (i+2) (p.length-(i+2)):=rfl
    rw [ecr]
    simp -implicitDefEqProofs [k8_14] at ih
    simp -implicitDefEqProofs [r8_14,k8_14,h,h',sln,wi2,-Int.natCast_add]
    rw [LL_rec (α:=Nat) (i+2) (fun k=>[(8,.int .i64 (k:Int))]) (fun _=>[]) (fun k=>if allFr (crJ p i) k (p.length-k) then (.exit 4,[(8,undef)],[]) else (.ret,[(2,.bool false),(8,undef)],[])) (fun k=>i+2≤k) (fun k=>p.length-k)]
    ·cases allFr (crJ p i) (i+2) (p.length-(i+2))
     ·simp -implicitDefEqProofs [k8_17,trim_le]
     ·simp -implicitDefEqProofs [k8_17,wi,trim_le]
      exact ih
    ·exact Nat.le_refl _
    ·simp -implicitDefEqProofs [k8_17]
    ·rfl
    ·intro nx k hk ih
     by_cases hkn:k<p.length
     ·have hkn':(k:Int)<(p.length:Int):=by omega
      have ih:=ih (k+1) (by omega) (by omega)
      have wk:IntKind.i64.wrap ((k:Int)+1)=(k:Int)+1:=wrap64 (by omega) (by omega)
      have w1:IntKind.i64.wrap ((i:Int)+(p.length:Int))=(i:Int)+(p.length:Int):=wrap64 (by omega) (by omega)
      have w2:IntKind.i64.wrap ((i:Int)+(p.length:Int)-(k:Int))=(i:Int)+(p.length:Int)-(k:Int):=wrap64 (by omega) (by omega)
      have ik:=six k hkn
      rw [side_val] at ik
      have cs:=crosses_spec (sd p i) (sd p k)
      rw [allFr_step hkn]
      have ecj:crJ p i k = !(decide (1<i+p.length-k) && crossB (sd p i) (sd p k)):=rfl
      rw [ecj]
      generalize crossB (sd p i) (sd p k)=cb at *
      generalize allFr (crJ p i) (k+1) (p.length-(k+1))=qk at ih ⊢
      simp -implicitDefEqProofs [k8_17] at ih
      by_cases h1:1<i+p.length-k
      ·have h1':1<(i:Int)+(p.length:Int)-(k:Int):=by omega
       cases cb
       ·simp -implicitDefEqProofs [r8_17,k8_17,hkn,hkn',sln,w1,w2,h1,h1',ii,ik,ret0 m26,cs,wk,trim_le]
        exact ih
       ·simp -implicitDefEqProofs [r8_17,k8_17,hkn,hkn',sln,w1,w2,h1,h1',ii,ik,ret0 m26,cs,wk,trim_le]
      ·have h1':¬ (1<(i:Int)+(p.length:Int)-(k:Int)):=by omega
       simp -implicitDefEqProofs [r8_17,k8_17,hkn,hkn',sln,w1,w2,h1,h1',ii,ik,wk,trim_le]
       exact ih
     ·have hkn':¬ ((k:Int)<(p.length:Int)):=by omega
      rw [allFr_end (by omega)]
      simp -implicitDefEqProofs [r8_17,k8_17,hkn,hkn',sln,trim_le]
   ·have h':¬ ((i:Int)<(p.length:Int)):=by omega
    rw [allFr_end (by omega)]
    simp -implicitDefEqProofs [r8_14,k8_14,h,h',sln,trim_le]
 ·exact Nat.zero_le _
 ·simp -implicitDefEqProofs [k8_5,sln]
 ·rfl
 ·intro nx i hi ih
  by_cases h:i<p.length
  ·have h':(i:Int)<(p.length:Int):=by omega
   have ih:=ih (i+1) (by omega) (by omega)
   have hm:(i+1) % p.length<p.length:=Nat.mod_lt _ (by omega)
   have wi:IntKind.i64.wrap ((i:Int)+1)=((i+1:Nat):Int):=(wrap64 (by omega) (by omega)).trans (by omega)
   have rm:=rem_nat (P:=E.P) (t:=3) (m:=i+1) (n:=p.length) (by omega)
   have ii:=six i h
   have im:=six _ hm
   have p0:=pix 0 (by omega)
   have p0':indexAddrT (.sl 42 ⟨some true,some 2⟩) PV (.int .i64 0)=_:=p0
   have pI:=pix i h
   rw [side_val] at ii im
   rw [span_val] at p0' pI
   have gs:=grid_spec (sd p i).1
   have us:=up_spec (sd p i)
   have un:=up_spec (sd p ((i+1) % p.length))
   have cp:=compare_spec (p.getD 0 (0,0)) (p.getD i (0,0))
   have lt:=cmpP_lt (p.getD 0 (0,0)) (p.getD i (0,0))
   rw [allFr_step h]
   have eok:okI p i=(onB (sd p i).1 && ((decide ((sd p i).1.1=(sd p i).2.1) != decide ((sd p i).1.2=(sd p i).2.2)) && (upS (sd p i) != upS (sd p ((i+1) % p.length))) && (decide (i=0) || Rg.ltP (p.getD 0 (0,0)) (p.getD i (0,0))))):=rfl
   rw [eok]
   clear p0 eok
   generalize hj:(i+1) % p.length=j at *
   generalize p.getD 0 (0,0)=a0 at *
   generalize p.getD i (0,0)=ai at *
   generalize sd p i=s at *
   generalize sd p j=t at *
   obtain ⟨⟨sa,sb⟩,sc,se⟩:=s
   obtain ⟨⟨ta,tb⟩,tc,te⟩:=t
   generalize allFr (okI p) (i+1) (p.length-(i+1))=qk at ih ⊢
   generalize cmpP a0 ai=cv at *
   generalize Rg.ltP a0 ai=lv at *
   generalize upS ((sa,sb),sc,se)=u1 at *
   generalize upS ((ta,tb),tc,te)=u2 at *
   simp only at ii im gs us un ⊢
   generalize onB (sa,sb)=g at *
   simp -implicitDefEqProofs [k8_5] at ih
   have bP:∀ d n,below (d+1) n PV=true:=fun d n=>by rw [← hPV];rfl
   have bS:∀ d n,below (d+1) n SV=true:=fun d n=>by rw [← hSV];rfl
   cases g
   ·simp -implicitDefEqProofs [r8_5,k8_5,h,h',sln,ii,im,wi,rm,ret0 m24,gs,bP,bS,trim_cut,-Int.natCast_add]
   by_cases q1:sa=sc
   ·subst q1
    by_cases q2:sb=se
    ·subst q2
     simp -implicitDefEqProofs [r8_5,k8_5,h,h',sln,ii,im,wi,rm,ret0 m24,gs,beq,ret0 m21,us,un,bP,bS,trim_cut,-Int.natCast_add]
    ·cases u1 <;> cases u2
     ·simp -implicitDefEqProofs [r8_5,k8_5,h,h',sln,ii,im,wi,rm,ret0 m24,gs,beq,ret0 m21,us,un,q2,bP,bS,trim_cut,-Int.natCast_add]
     ·by_cases i0:i=0
      ·rw [decide_eq_true i0]
       have ip:¬ (0<(i:Int)):=by omega
       have ipn:¬ (0<i):=by omega
       simp -implicitDefEqProofs [r8_5,k8_5,h,h',sln,ii,im,wi,rm,ret0 m24,gs,beq,ret0 m21,us,un,q2,ip,ipn,bP,bS,trim_cut,-Int.natCast_add]
       exact ih
      ·rw [decide_eq_false i0]
       have ip:0<(i:Int):=by omega
       have ipn:0<i:=by omega
       cases lv
       ·have c0:0≤cv:=by by_cases z:cv<0;exact absurd (lt.1 z) (by decide);omega
        simp -implicitDefEqProofs [r8_5,k8_5,h,h',sln,ii,im,wi,rm,ret0 m24,gs,beq,ret0 m21,us,un,q2,ip,ipn,p0',pI,ret0 m25,cp,c0,bP,bS,trim_cut,-Int.natCast_add]
       ·have c0:¬ (0≤cv):=by have:=lt.2 rfl;omega
        simp -implicitDefEqProofs [r8_5,k8_5,h,h',sln,ii,im,wi,rm,ret0 m24,gs,beq,ret0 m21,us,un,q2,ip,ipn,p0',pI,ret0 m25,cp,c0,bP,bS,trim_cut,-Int.natCast_add]
        exact ih
     ·by_cases i0:i=0
      ·rw [decide_eq_true i0]
       have ip:¬ (0<(i:Int)):=by omega
       have ipn:¬ (0<i):=by omega
       simp -implicitDefEqProofs [r8_5,k8_5,h,h',sln,ii,im,wi,rm,ret0 m24,gs,beq,ret0 m21,us,un,q2,ip,ipn,bP,bS,trim_cut,-Int.natCast_add]
       exact ih
      ·rw [decide_eq_false i0]
       have ip:0<(i:Int):=by omega
       have ipn:0<i:=by omega
       cases lv
       ·have c0:0≤cv:=by by_cases z:cv<0;exact absurd (lt.1 z) (by decide);omega
        simp -implicitDefEqProofs [r8_5,k8_5,h,h',sln,ii,im,wi,rm,ret0 m24,gs,beq,ret0 m21,us,un,q2,ip,ipn,p0',pI,ret0 m25,cp,c0,bP,bS,trim_cut,-Int.natCast_add]
       ·have c0:¬ (0≤cv):=by have:=lt.2 rfl;omega
        simp -implicitDefEqProofs [r8_5,k8_5,h,h',sln,ii,im,wi,rm,ret0 m24,gs,beq,ret0 m21,us,un,q2,ip,ipn,p0',pI,ret0 m25,cp,c0,bP,bS,trim_cut,-Int.natCast_add]
        exact ih
     ·simp -implicitDefEqProofs [r8_5,k8_5,h,h',sln,ii,im,wi,rm,ret0 m24,gs,beq,ret0 m21,us,un,q2,bP,bS,trim_cut,-Int.natCast_add]
   ·by_cases q2:sb=se
    ·subst q2
     cases u1 <;> cases u2
     ·simp -implicitDefEqProofs [r8_5,k8_5,h,h',sln,ii,im,wi,rm,ret0 m24,gs,beq,ret0 m21,us,un,q1,bP,bS,trim_cut,-Int.natCast_add]
     ·by_cases i0:i=0
      ·rw [decide_eq_true i0]
       have ip:¬ (0<(i:Int)):=by omega
       have ipn:¬ (0<i):=by omega
       simp -implicitDefEqProofs [r8_5,k8_5,h,h',sln,ii,im,wi,rm,ret0 m24,gs,beq,ret0 m21,us,un,q1,ip,ipn,bP,bS,trim_cut,-Int.natCast_add]
       exact ih
      ·rw [decide_eq_false i0]
       have ip:0<(i:Int):=by omega
       have ipn:0<i:=by omega
       cases lv
       ·have c0:0≤cv:=by by_cases z:cv<0;exact absurd (lt.1 z) (by decide);omega
        simp -implicitDefEqProofs [r8_5,k8_5,h,h',sln,ii,im,wi,rm,ret0 m24,gs,beq,ret0 m21,us,un,q1,ip,ipn,p0',pI,ret0 m25,cp,c0,bP,bS,trim_cut,-Int.natCast_add]
       ·have c0:¬ (0≤cv):=by have:=lt.2 rfl;omega
        simp -implicitDefEqProofs [r8_5,k8_5,h,h',sln,ii,im,wi,rm,ret0 m24,gs,beq,ret0 m21,us,un,q1,ip,ipn,p0',pI,ret0 m25,cp,c0,bP,bS,trim_cut,-Int.natCast_add]
        exact ih
     ·by_cases i0:i=0
      ·rw [decide_eq_true i0]
       have ip:¬ (0<(i:Int)):=by omega
       have ipn:¬ (0<i):=by omega
       simp -implicitDefEqProofs [r8_5,k8_5,h,h',sln,ii,im,wi,rm,ret0 m24,gs,beq,ret0 m21,us,un,q1,ip,ipn,bP,bS,trim_cut,-Int.natCast_add]
       exact ih
      ·rw [decide_eq_false i0]
       have ip:0<(i:Int):=by omega
       have ipn:0<i:=by omega
       cases lv
       ·have c0:0≤cv:=by by_cases z:cv<0;exact absurd (lt.1 z) (by decide);omega
        simp -implicitDefEqProofs [r8_5,k8_5,h,h',sln,ii,im,wi,rm,ret0 m24,gs,beq,ret0 m21,us,un,q1,ip,ipn,p0',pI,ret0 m25,cp,c0,bP,bS,trim_cut,-Int.natCast_add]
       ·have c0:¬ (0≤cv):=by have:=lt.2 rfl;omega
        simp -implicitDefEqProofs [r8_5,k8_5,h,h',sln,ii,im,wi,rm,ret0 m24,gs,beq,ret0 m21,us,un,q1,ip,ipn,p0',pI,ret0 m25,cp,c0,bP,bS,trim_cut,-Int.natCast_add]
        exact ih
     ·simp -implicitDefEqProofs [r8_5,k8_5,h,h',sln,ii,im,wi,rm,ret0 m24,gs,beq,ret0 m21,us,un,q1,bP,bS,trim_cut,-Int.natCast_add]
    ·simp -implicitDefEqProofs [r8_5,k8_5,h,h',sln,ii,im,wi,rm,ret0 m24,gs,beq,ret0 m21,us,un,q1,q2,bP,bS,trim_cut,-Int.natCast_add]
  ·have h':¬ ((i:Int)<(p.length:Int)):=by omega
   rw [allFr_end (by omega)]
   simp -implicitDefEqProofs [r8_5,k8_5,h,h',sln,trim_le]
end Go.Proofs.YtnhdabelepjgbaaGreat.Bm
