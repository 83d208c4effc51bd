/-
 append, copy and clear: where the abstract machine has an outcome, the machine has a related one. Conditions: none.
-/
import Derived.Test.YtplebjehcgcdeaaGreatDoorQU04
import Derived.Lib.AppendZeros
import Derived.Laws.BytesString
namespace Go.Proofs.YtplebjehcgcdeaaGreatDoor.Bm
open Go Go.RowKit
section
variable {E:Env} {B lo:Nat} {M:Mem} {h:Heap} {w:World}
theorem flatMap_get {s:Nat}:∀ (l:List Value),(∀ v∈l,(cellsL v).length=s)→∀ (k:Nat) u,(l.flatMap cellsL)[k]?=some u→∃ i j v,k=i * s+j∧l[i]?=some v∧(cellsL v)[j]?=some u
 | [],_,k,u,h=>by simp at h
 | x :: l,hl,k,u,h=>by
  rw [List.flatMap_cons,List.getElem?_append,hl x (by simp)] at h
  split at h
  ·exact ⟨0,k,x,by simp,rfl,h⟩
  ·obtain ⟨i,j,v,h1,h2,h3⟩:=flatMap_get l (fun v hv=>hl v (by simp [hv])) (k-s) u h
   exact ⟨i+1,j,v,by rw [Nat.add_mul];omega,by simpa using h2,h3⟩
theorem flatMap_length {s:Nat}:∀ (l:List Value),(∀ v∈l,(cellsL v).length=s)→(l.flatMap cellsL).length=l.length * s
 | [],_=>by simp
 | x :: l,hl=>by
  rw [List.flatMap_cons,List.length_append,hl x (by simp),flatMap_length l fun v hv=>hl v (by simp [hv]),List.length_cons,Nat.add_mul];omega
theorem sliceCells_sound (hs:HSim E B M h w) {s n:Nat} {x x':Value} {cs:List Value} (hc:sliceCells h s x=some (cs,n)) (hx:VRel M x x') :
  ∃ a' cap',x'=.slice a' n cap'∧n≤cap'∧cs.length=n * s∧(∀ (j:Nat) v,cs[j]?=some v→one v=true)∧∃ cs',VRels M cs cs'∧(a'=none→n=0∧cap'=0) ∧
   ((a'=none∧cs'=[])∨∃ b,a'=some b∧∀ j v,cs'[j]?=some v→w.cell? (b.add j)=some v):=by
 unfold sliceCells at hc
 split at hc
 ·obtain ⟨rfl,-,-⟩:=hx.sliceNone
  cases hc
  exact ⟨none,0,rfl,Nat.le_refl _,by simp,by simp,[],VRels.nil,fun _=>⟨rfl,rfl⟩,.inl ⟨rfl,rfl⟩⟩
 ·rename_i a len cap
  split at hc
  ·rename_i h0
   cases hc
   subst h0
   rcases hx.sliceSome with ⟨a',c',rfl,hl,hcr⟩ | ⟨rfl,_⟩
   ·exact ⟨some a',c',rfl,Nat.zero_le _,by simp,by simp,[],VRels.nil,by simp,.inr ⟨a',rfl,by simp⟩⟩
   ·exact ⟨none,0,rfl,Nat.le_refl _,by simp,by simp,[],VRels.nil,fun _=>⟨rfl,rfl⟩,.inl ⟨rfl,rfl⟩⟩
  ·rename_i h0
   split at hc
   case isFalse=>cases hc
   rename_i hfit
   simp only [Option.map_eq_some_iff,Prod.mk.injEq] at hc
   obtain ⟨c,hr,rfl,rfl⟩:=hc
   rcases hx.sliceSome with ⟨a',c',rfl,hl,hcr⟩ | ⟨_,h1,_⟩
   case inr=>exact absurd h1 h0
   obtain ⟨h1,h2,cs',h3,h4⟩:=hs.read (capRel_place hcr (by omega)) hr
   obtain ⟨lc,k1,k2⟩:=id hcr
   obtain ⟨hg,hst⟩:=fits_grown hs hfit k1
   have hcc:cap≤c':=by
    cases hsp:a.spot with
    | none=>rw [hsp] at k2;omega
    | some k=>rw [hsp] at k2;exact (k2.2.2 (hst k hsp)).1
   exact ⟨some a',c',rfl,Nat.le_trans hl hcc,h1,h2,cs',h3,by simp,.inr ⟨a',rfl,h4⟩⟩
 ·rename_i k z l
  split at hc
  case isFalse=>cases hc
  rename_i hcond
  obtain ⟨hk,hall⟩:=hcond
  cases hc
  have hl:∀ v∈l,(cellsL v).length=s:=fun v hv=>by simpa using List.all_eq_true.1 hall v hv
  rcases hx.treeSome.lstSome hk with ⟨rfl,rfl⟩ | ⟨a',cap',s0,f,rfl,hcap,_,hsp,q1,q2⟩
  ·exact ⟨none,0,rfl,Nat.le_refl _,by simp,by simp,[],by simpa using VRels.nil,fun _=>⟨rfl,rfl⟩,.inl ⟨rfl,rfl⟩⟩
  ·have hget:∀ (k:Nat) u,(l.flatMap cellsL)[k]?=some u→one u=true∧∃ u',w.cell? (a'.add k)=some u'∧VRel M u u':=by
    intro k u hu
    obtain ⟨i,j,v,rfl,hv,hj⟩:=flatMap_get l hl k u hu
    have hs0:s0=s:=by rw [← (q1 i v hv).1];exact hl v (List.mem_of_getElem? hv)
    obtain ⟨z1,z2⟩:=(q1 i v hv).2 j u hj
    have hspn:a'.spot=none:=hsp.resolve_left fun h=>by rw [h] at hv;simp at hv
    rw [hs0] at z2
    exact ⟨z1,f i j,by rw [add_spot hspn];exact hs.phi _ _ _ z2,(q2 i v hv j u hj).toV⟩
   have hlen:=flatMap_length l hl
   refine ⟨some a',cap',rfl,hcap,hlen,fun j v hv=>(hget j v hv).1,(List.range (l.length * s)).map fun j=>(w.cell? (a'.add j)).getD undef,⟨by simp [hlen],fun i u u' hu hu'=>?_⟩,by simp,.inr ⟨a',rfl,fun j v hv=>?_⟩⟩
   ·obtain ⟨_,v',h5,h6⟩:=hget i u hu
    have hi:i<l.length * s:=hlen ▸ (List.getElem?_eq_some_iff.1 hu).1
    simp [hi,h5] at hu'
    subst hu';exact h6
   ·have hj:j<l.length * s:=by
     have:=(List.getElem?_eq_some_iff.1 hv).1;simpa using this
    obtain ⟨_,v',h5,_⟩:=hget j _ (List.getElem?_eq_getElem (by rw [hlen];exact hj))
    simp [hj,h5] at hv
    rw [h5,hv]
 ·cases hc
theorem numsOf_some:∀ {l:List Value} {ns:List Int},numsOf l=some ns→l=ns.map (Value.int .u8)
 | [],_,h=>by cases h;rfl
 | x :: l,ns,h=>by
  unfold numsOf at h
  split at h
  ·rename_i e;cases e
  ·rename_i n l' e
   cases e
   obtain ⟨m,h1,rfl⟩:=Option.map_eq_some_iff.1 h
   rw [List.map_cons,← numsOf_some h1]
  ·cases h
theorem byK_one {P:Program} {s d:TypeId} (h:byK P s d=1):∃ e,P.underlying s=some (.slice e)∧P.underlying d=some .string∧P.underlying e=some (.int .u8):=by
 unfold byK at h
 split at h
 ·rename_i e h1 h2
  split at h
  ·rename_i h3
   exact ⟨e,h1,h2,h3⟩
  ·cases h
 ·cases h
theorem convertH_sound (hs:HSim E B M h w) {src dst:TypeId} {x x' v:Value} (hc:aConvertH E.P h src dst x=some v) (hx:VRel M x x') :
  ∃ v',(convert src dst x').run E.P w=.ok v' w∧VRel M v v':=by
 unfold aConvertH at hc
 split at hc
 ·exact convert_sound hc hx
 ·rename_i hb
  obtain ⟨e,k1,k2,k3⟩:=byK_one hb
  obtain ⟨⟨cs,n⟩,q1,q2⟩:=Option.bind_eq_some_iff.1 hc
  obtain ⟨ns,q3,rfl⟩:=Option.map_eq_some_iff.1 q2
  obtain ⟨a',cap',rfl,_,hlen,_,cs',rn,hxn,hxc⟩:=sliceCells_sound hs q1 hx
  have e1:cs=ns.map (Value.int .u8):=numsOf_some q3
  have e2:cs'=cs:=by
   refine List.ext_getElem? fun i=>?_
   cases hi:cs[i]? with
   | none=>rw [List.getElem?_eq_none_iff] at hi ⊢; rw [← rn.1];exact hi
   | some u =>
    have hlt:i<cs'.length:=rn.1 ▸ (List.getElem?_eq_some_iff.1 hi).1
    have h2:=rn.2 i u _ hi (List.getElem?_eq_getElem hlt)
    have hu:∃ z,u=.int .u8 z:=by
     subst e1
     rw [List.getElem?_map,Option.map_eq_some_iff] at hi
     obtain ⟨z,_,rfl⟩:=hi
     exact ⟨z,rfl⟩
    obtain ⟨z,rfl⟩:=hu
    rw [List.getElem?_eq_getElem hlt,h2.int]
  subst e2
  refine ⟨.string (strNums ns),?_,.atom _ rfl⟩
  rw [run_convert_bytes_string w src dst e a' n cap' k1 k3 k2]
  rcases hxc with ⟨rfl,rfl⟩ | ⟨b,rfl,hb2⟩
  ·have:ns=[]:=by
    rw [eq_comm,List.map_eq_nil_iff] at e1;exact e1
   subst this
   simp [Conv.bytesToString];rfl
  ·have hl:=run_loadCells_list (P:=E.P) w b cs' hb2
   rw [hlen,Nat.mul_one] at hl
   rw [e1] at hl
   exact run_bytesToString w b n cap' ns hl
 ·cases hc
theorem src_of {P:Program} {s len cap:Nat} {tx e:TypeId} (hk:P.underlying tx=some (.slice e)) {a':Option Addr} {cs cs':List Value} (hl:cs.length=len * s) (h1:∀ (j:Nat) v,cs[j]?=some v→one v=true)
  (hr:VRels M cs cs') (hz:a'=none→len=0∧cap=0) (hc:(a'=none∧cs'=[])∨∃ b,a'=some b∧∀ j v,cs'[j]?=some v→w.cell? (b.add j)=some v):Src P s tx (.slice a' len cap) len cs' w:=by
 have hone:∀ u∈cs',u.oneCell'=true:=by
  intro u hu
  obtain ⟨i,hi⟩:=List.mem_iff_getElem?.1 hu
  have hlt:i<cs.length:=hr.1 ▸ (List.getElem?_eq_some_iff.1 hi).1
  exact (hr.2 i cs[i] u (List.getElem?_eq_getElem hlt) hi).one (h1 i _ (List.getElem?_eq_getElem hlt))
 rcases hc with ⟨rfl,rfl⟩ | ⟨b,rfl,hb⟩
 ·obtain ⟨rfl,rfl⟩:=hz rfl
  exact Src.ofNil w hk 0
 ·exact Src.ofSlice w hk b len cap cs' (by rw [← hr.1,hl]) hb hone
theorem evo_drew {M':Mem} {h':Heap} {w':World} (e:Evo E lo M h w.drew M' h' w'):Evo E lo M h w M' h' w' :=
 ⟨e.os,e.tape,e.output,fun hd=>Nat.le_trans (Nat.le_succ _) (e.drawn hd),e.size,e.block,e.len,e.keep,e.dead,e.ext,e.le,e.non,e.own,e.fro⟩
theorem append_real {t tx e:TypeId} {i:TypeInfo} {z:Value} (ht:E.P.underlying t=some (.slice e)) (hi:E.P.info? e=some i) (hz:i.zero=some z)
  (_hs0:i.size≠0) (hb0:i.bytes≠0) (hzs:z.cells.size=i.size) {base:Option Addr} {sLen sCap n:Nat} {olds olds' news news':List Value} {x':Value} (hsrc:Src E.P i.size tx x' n news' w)
  (hold:(Builtin.firstCells i.size sLen (.slice base sLen sCap)).run E.P w.drew=.ok olds'.toArray w.drew) (ro:VRels M olds olds') (rn:VRels M news news')
  (lo1:olds.length=sLen * i.size) (lo2:news.length=n * i.size)
  (hg:sCap<sLen+n) (hby:(sLen+n) * i.bytes≤2 ^ 47) (ty:TypeId) :
  ∃ (G:Nat) (cs:Array Value),(Builtin.append_ #[t,tx] ty #[.slice base sLen sCap,x']).run E.P w=.ok (.slice (some ⟨w.heap.size,0,none⟩) (sLen+n) G) (w.drew.alloc (.cells cs e))∧sLen+n≤G∧cs.size=G * i.size ∧
   (olds++news).length=(sLen+n) * i.size∧∀ (j:Nat) v,(olds++news)[j]?=some v→∃ v',cs[j]?=some v'∧VRel M v v':=by
 have hle:sLen+n≤(sLen+n) * i.bytes:=Nat.le_mul_of_pos_right _ (by omega)
 have hnc:=nextslicecap_le hg
 have hfit:Builtin.nextslicecap (sLen+n) sCap * i.bytes≤281474976710656:=by
  have:=Nat.mul_le_mul_right i.bytes hnc
  have e2:2 * (sLen+n) * i.bytes=2 * ((sLen+n) * i.bytes):=Nat.mul_assoc _ _ _
  omega
 have hrun:=run_append_grow_src (P:=E.P) w t tx ty e i z ht hi hz base sLen sCap olds' hold x' n news' hsrc hg (by omega) hfit
 have hge:=grownCap_ge w (sLen+n) sCap e
 generalize hG:grownCap w (sLen+n) sCap e=G at hrun hge
 have hcs:((olds'++news').toArray++Builtin.zeroCells z.cells (G-(sLen+n))).size=G * i.size:=by
  rw [Array.size_append,size_zeroCells,hzs,List.size_toArray,List.length_append,← ro.1,← rn.1,lo1,lo2,← Nat.add_mul,← Nat.add_mul]
  congr 1;omega
 have hrel:=ro.append rn
 refine ⟨G,_,hrun,hge,hcs,by rw [List.length_append,lo1,lo2,Nat.add_mul],fun j v hv=>?_⟩
 obtain ⟨v',hv',hr⟩:=hrel.get hv
 exact ⟨v',by rw [Array.getElem?_append_left (by simpa using (List.getElem?_eq_some_iff.1 hv').1)];simpa using hv',hr⟩
theorem append_new (hs:HSim E B M h w) (hlo:lo≤h.length) {t tx e:TypeId} {i:TypeInfo} {z:Value} (ht:E.P.underlying t=some (.slice e)) (hi:E.P.info? e=some i) (hz:i.zero=some z)
  (hs0:i.size≠0) (hb0:i.bytes≠0) (hzs:z.cells.size=i.size) {base:Option Addr} {sLen sCap n:Nat} {olds olds' news news':List Value} {x':Value} (hsrc:Src E.P i.size tx x' n news' w)
  (hold:(Builtin.firstCells i.size sLen (.slice base sLen sCap)).run E.P w.drew=.ok olds'.toArray w.drew) (ro:VRels M olds olds') (rn:VRels M news news')
  (lo1:olds.length=sLen * i.size) (lo2:news.length=n * i.size) (o1:∀ (j:Nat) v,olds[j]?=some v→one v=true) (o2:∀ (j:Nat) v,news[j]?=some v→one v=true)
  (hg:sCap<sLen+n) (hby:(sLen+n) * i.bytes≤2 ^ 47) (ty:TypeId) :
  ∃ v' w',(Builtin.append_ #[t,tx] ty #[.slice base sLen sCap,x']).run E.P w=.ok v' w' ∧
   Out E B lo M h w (.slice (some ⟨h.length,0,some (olds++news).length⟩) (sLen+n) (sLen+n)) (h++[.cells e (olds++news) i.size]) v' w':=by
 obtain ⟨G,cs,hrun,hge,hcs,hl1,hcell⟩:=append_real ht hi hz hs0 hb0 hzs hsrc hold ro rn lo1 lo2 hg hby ty
 have hl2:(olds++news).length≤cs.size:=by rw [hl1,hcs];exact Nat.mul_le_mul_right _ hge
 have hG:0<G:=by omega
 have hne:cs.size≠0:=by rw [hcs];exact Nat.mul_ne_zero (by omega) hs0
 obtain ⟨k2,k3⟩:=(hs.of_heap (w':=w.drew) rfl).alloc (c:=olds++news) (cs:=cs) (t:=e) (ty:=e) (g:=i.size) hl2 (.inr hne) (fun j v hv=>by
   by_cases hj:j<olds.length
   ·rw [List.getElem?_append_left hj] at hv;exact o1 j v hv
   ·rw [List.getElem?_append_right (Nat.le_of_not_lt hj)] at hv;exact o2 _ v hv) fun j v v' hv hv'=>by
   obtain ⟨v2,h1,h2⟩:=hcell j v hv
   rw [hv'] at h1;cases h1;exact h2
 refine ⟨_,_,hrun,_,?_,k2,evo_drew (k3 lo hlo)⟩
 refine .slice _ _ _ _ _ (Nat.le_refl _) ⟨_,Mem.put_self,hs0,Nat.le_refl _,fun _=>⟨hge,.inr ⟨rfl,?_⟩⟩⟩
 show 0+0+G * i.size≤cs.size
 omega
theorem cap_le (hs:HSim E B M h w) {a a':Addr} {s cap cap':Nat} (hf:fitsRow h a s=true) (hcr:CapRel M a a' cap cap'):cap≤cap':=by
 obtain ⟨lc,k1,k2⟩:=hcr
 obtain ⟨hg,hst⟩:=fits_grown hs hf k1
 cases hsp:a.spot with
 | none=>rw [hsp] at k2;omega
 | some k=>rw [hsp] at k2;exact (k2.2.2 (hst k hsp)).1
theorem append_types {ts:Array TypeId} {t tx ty:TypeId} {args:Array Value} (h0:ts[0]?=some t) (h1:ts[1]?=some tx):Builtin.append_ ts ty args=Builtin.append_ #[t,tx] ty args:=by
 unfold Builtin.append_
 simp only [h0,h1]
 rfl
theorem append_core (hs:HSim E B M h w) (hlo:lo≤h.length) {strict:Bool} {t tx e:TypeId} {i:TypeInfo} {z:Value} (hu:E.P.underlying t=some (.slice e)) (hi:E.P.info? e=some i) (hz:i.zero=some z)
  (hs0:i.size≠0) (hb0:i.bytes≠0) (hzs:z.cells.size=i.size) {new new':List Value} {m:Nat} {x':Value} (hsrc:Src E.P i.size tx x' m new' w) (hln:new.length=m * i.size) (o2:∀ (j:Nat) v,new[j]?=some v→one v=true) (rn:VRels M new new')
  {d d' v:Value} {h':Heap} (hv:aApp h lo strict e i (new,m) d=some (v,h')) (hd:VRel M d d') (ty:TypeId) :
  ∃ v' w',(Builtin.append_ #[t,tx] ty #[d',x']).run E.P w=.ok v' w'∧Out E B (if strict then h.length else lo) M h w v h' v' w':=by
 unfold aApp at hv
 have hsz:(szOf E.P e)=some i.size:=by simp [szOf,hi]
 have loW:(if strict then h.length else lo)≤h.length:=by split <;> omega
 have hone:∀ u∈new',u.oneCell'=true:=hsrc.one
 have room:∀ (a':Addr) (len cap':Nat) (w1:World),len+m≤cap'→(storeCells (a'.add (len * i.size)) new').run E.P w=.ok () w1 →
   (Builtin.append_ #[t,tx] ty #[.slice (some a') len cap',x']).run E.P w=.ok (.slice (some a') (len+m) cap') w1:=by
  intro a' len cap' w1 hroom hst
  rcases hsrc.kind with ⟨e',hux⟩ | hux <;> simp [Builtin.append_,run_underlying hu,run_underlying hux,sizeOf,typeInfo,hi,hsrc.len,hroom,hsrc.cells,hst]
 have nil0:m=0→new'=[]:=fun hm=>by
  have:=rn.1;rw [hln,hm] at this;simpa using this.symm
 have none0:m=0→(Builtin.append_ #[t,tx] ty #[.slice none 0 0,x']).run E.P w=.ok (.slice none 0 0) w:=fun hm=>by
  have:=nil0 hm
  subst this;subst hm
  rcases hsrc.kind with ⟨e',hux⟩ | hux <;> simp [Builtin.append_,run_underlying hu,run_underlying hux,sizeOf,typeInfo,hi,hsrc.len,hsrc.cells]
 have firsts:∀ {old old':List Value} {len cap':Nat} {a':Option Addr},VRels M old old'→old.length=len * i.size→(a'=none→len=0∧cap'=0)→((a'=none∧old'=[])∨∃ b,a'=some b∧∀ (j:Nat) v,old'[j]?=some v→w.cell? (b.add j)=some v) →
   (Builtin.firstCells i.size len (.slice a' len cap')).run E.P w.drew=.ok old'.toArray w.drew:=by
  intro old old' len cap' a' ro hl hz hdc
  rcases hdc with ⟨rfl,rfl⟩ | ⟨b,rfl,hb⟩
  ·obtain ⟨rfl,rfl⟩:=hz rfl
   exact run_firstCells_none _ _ _ _ _
  ·exact run_firstCells_some w.drew i.size len b len cap' old' (by rw [← ro.1,hl]) (by simpa using hb)
 split at hv
 ·-- a nil destination
  obtain ⟨rfl,-,-⟩:=hd.sliceNone
  split at hv
  ·rename_i hm
   cases hv
   exact ⟨.slice none 0 0,w,none0 hm,Out.same hs (.atom _ rfl)⟩
  ·rename_i hm
   split at hv
   case isFalse=>cases hv
   rename_i hby
   cases hv
   obtain ⟨v',w',hr,ho⟩:=append_new hs loW hu hi hz hs0 hb0 hzs (base:=none) (sLen:=0) (sCap:=0) (olds:=[]) (olds':=[]) hsrc (run_firstCells_none _ _ _ _ _) VRels.nil rn (by simp) hln (by simp) o2 (by omega) (by simpa using hby) ty
   exact ⟨v',w',hr,by simpa using ho⟩
 ·-- a list
  rename_i k zz l
  split at hv
  ·rename_i hm
   split at hv
   case isFalse=>cases hv
   rename_i hk2
   cases hv
   have ht:=hd.treeSome
   have hd0:=hd
   cases ht with
   | atom _ ha=>simp [Bm.atom] at ha
   | lnil=>exact ⟨.slice none 0 0,w,none0 hm,Out.same hs hd0⟩
   | cptr=>omega
   | lst _ _ _ a' cap' _ _ hc =>
    have:=nil0 hm
    subst this
    subst hm
    exact ⟨_,w,room a' l.length cap' w (by omega) (by simp [storeCells]),Out.same hs hd0⟩
  ·rename_i hm
   split at hv
   case isFalse=>cases hv
   rename_i hk
   obtain ⟨rfl,hall,hby⟩:=hk
   cases hv
   have hdc:sliceCells h i.size (.func (.yield 1) zz ⟨l⟩)=some (l.flatMap cellsL,l.length):=by simp only [sliceCells];rw [if_pos ⟨by decide,hall⟩]
   obtain ⟨ad',cd',rfl,hlc,hlo2,o1,old',ro,hdn,hdc'⟩:=sliceCells_sound hs hdc hd
   have hcap:cd'=l.length:=by
    rcases hd.treeSome.lstSome (by decide) with ⟨e,rfl⟩ | ⟨_,_,_,_,e,_,hx1,_⟩
    ·cases e;rfl
    ·cases e;exact hx1 rfl
   obtain ⟨v',w',hr,ho⟩:=append_new hs loW hu hi hz hs0 hb0 hzs hsrc (firsts ro hlo2 hdn hdc') ro rn hlo2 hln o1 o2 (by omega) hby ty
   exact ⟨v',w',hr,ho⟩
 ·rename_i a len cap
  have hd0:=hd
  split at hv
  ·rename_i hroom
   split at hv
   ·rename_i hm
    split at hv
    case isFalse=>cases hv
    rename_i hfit
    cases hv
    rcases hd.sliceSome with ⟨a',cap',rfl,hlc,hcr⟩ | ⟨rfl,rfl,rfl,_⟩
    ·have hcc:=cap_le hs hfit hcr
     have:=nil0 hm
     subst this;subst hm
     exact ⟨_,w,room a' len cap' w (by omega) (by simp [storeCells]),Out.same hs hd0⟩
    ·exact ⟨_,w,none0 hm,Out.same hs hd0⟩
   ·rename_i hm
    split at hv
    ·cases hv
    rename_i hst
    simp only [Bool.or_eq_true,Bool.not_eq_true',not_or,Bool.not_eq_true,Bool.not_eq_false] at hst
    obtain ⟨hst,hfit⟩:=hst
    subst hst
    simp only [Option.map_eq_some_iff] at hv
    obtain ⟨h1,hw,e1⟩:=hv
    cases e1
    rcases hd.sliceSome with ⟨a',cap',rfl,hlc,hcr⟩ | ⟨_,_,h0,_⟩
    case inr=>omega
    have hcc:=cap_le hs hfit hcr
    have hp:=capRel_place hcr (by omega)
    obtain ⟨w',hr,k1,k2⟩:=hs.write (place_shift hp (len * i.size)) hw rn o2
    exact ⟨_,w',room a' len cap' w' (by omega) hr,M,.slice _ _ _ _ _ hroom hcr,k1,by simpa using k2⟩
  ·rename_i hroom
   split at hv
   case isFalse=>cases hv
   rename_i hby
   split at hv
   ·rename_i t0 c hob hsp
    split at hv
    case isFalse=>cases hv
    rename_i hle
    cases hv
    rcases hd.sliceSome with ⟨a',cap',rfl,hlc,hcr⟩ | ⟨_,_,_,k,_,hk,_⟩
    case inr=>rw [hsp] at hk;cases hk
    have hcap:cap'=cap:=by obtain ⟨_,_,k2⟩:=hcr;rw [hsp] at k2;exact k2.2.1
    have hold:∃ old',VRels M ((c.drop a.off).take (len * i.size)) old'∧((c.drop a.off).take (len * i.size)).length=len * i.size∧(∀ (j:Nat) v,((c.drop a.off).take (len * i.size))[j]?=some v→one v=true) ∧
      ∀ (j:Nat) v,old'[j]?=some v→w.cell? (a'.add j)=some v:=by
     by_cases h0:len=0
     ·subst h0
      exact ⟨[],by simpa using VRels.nil,by simp,by simp,by simp⟩
     ·have hr:rdN h a (len * i.size)=some ((c.drop a.off).take (len * i.size)):=by
       simp only [rdN,rowOf,hob,hsp,stampOk,if_true,Option.bind_some,if_pos hle]
      obtain ⟨q1,q2,cs',q3,q4⟩:=hs.read (capRel_place hcr (by omega)) hr
      exact ⟨cs',q3,q1,q2,q4⟩
    obtain ⟨old',ro,hlo2,o1,hb⟩:=hold
    exact append_new hs loW hu hi hz hs0 hb0 hzs hsrc (firsts ro hlo2 (by simp) (.inr ⟨a',rfl,hb⟩)) ro rn hlo2 hln o1 o2 (by omega) hby ty
   ·rename_i t0 c g k hob hsp
    split at hv
    ·cases hv
    rename_i hcond
    simp only [Bool.or_eq_true,not_or,Bool.not_eq_true,Bool.not_eq_true',decide_eq_false_iff_not,Decidable.not_not,bne_iff_ne,ne_eq] at hcond
    obtain ⟨⟨⟨⟨⟨⟨hst,hloa⟩,hkc⟩,hgs⟩,hoff0⟩,hfull⟩,hte⟩:=hcond
    subst hst
    cases hv
    have hspos:0<i.size:=by omega
    have hlc:len≤cap:=by
     rcases hd.sliceSome with ⟨_,_,_,h,_⟩ | ⟨_,h1,h2,_⟩
     ·exact h
     ·omega
    have hll:len * i.size≤c.length:=by rw [← hfull];exact Nat.mul_le_mul_right _ hlc
    have hold1:(c.take (len * i.size)).length=len * i.size:=by simp;omega
    have hdlen:(c.take (len * i.size)++new).length=(len+m) * i.size:=by rw [List.length_append,hold1,hln,Nat.add_mul]
    have hgrow:c.length<(c.take (len * i.size)++new).length:=by rw [hdlen,← hfull];exact Nat.mul_lt_mul_of_pos_right (by omega) hspos
    obtain ⟨l,hl,hlg⟩:∃ l,M.obj a.block=some l∧l.grown≠0:=by
     rcases hd.sliceSome with ⟨_,_,_,_,l,h1,h2⟩ | ⟨_,_,_,_,l,_,h1,h2,_⟩
     ·rw [hsp] at h2;exact ⟨l,h1,h2.1⟩
     ·exact ⟨l,h1,h2⟩
    obtain ⟨hg,hlen,hnr,hre⟩:=hs.obj _ l t0 c (g+1) hl hob
    have hlenk:l.len=k:=by rw [hlen (by omega),hkc]
    -- a new row
    have mv:∀ (base:Option Addr) (sCap:Nat) (old':List Value),VRels M (c.take (len * i.size)) old'→(∀ (j:Nat) v,(c.take (len * i.size))[j]?=some v→one v=true)→(Builtin.firstCells i.size len (.slice base len sCap)).run E.P w.drew=.ok old'.toArray w.drew →
      sCap<len+m→∃ v' w',(Builtin.append_ #[t,tx] ty #[.slice base len sCap,x']).run E.P w=.ok v' w' ∧
       Out E B lo M h w (.slice (some ⟨a.block,0,some (c.take (len * i.size)++new).length⟩) (len+m) (len+m)) (h.set a.block (.cells t0 (c.take (len * i.size)++new) (g+1))) v' w':=by
     intro base sCap old' ro o1 hfc hsc
     obtain ⟨G,cs,hrun,hge,hcs,hl1,hcell⟩:=append_real hu hi hz hs0 hb0 hzs hsrc hfc ro rn hold1 hln hsc hby ty
     have hl2:(c.take (len * i.size)++new).length≤cs.size:=by rw [hl1,hcs];exact Nat.mul_le_mul_right _ hge
     have hne:cs.size≠0:=by rw [hcs];exact Nat.mul_ne_zero (by omega) hs0
     obtain ⟨k2,k3⟩:=(hs.of_heap (w':=w.drew) rfl).move (lo:=lo) (t:=t0) (ty:=e) (d:=c.take (len * i.size)++new) (cs:=cs) hl hob (by omega) hloa hl2 hne hgrow (fun j v hv=>by
      refine ⟨?_,hcell j v hv⟩
      by_cases hj:j<(c.take (len * i.size)).length
      ·rw [List.getElem?_append_left hj] at hv;exact o1 j v hv
      ·rw [List.getElem?_append_right (Nat.le_of_not_lt hj)] at hv;exact o2 _ v hv) hte.symm
     refine ⟨_,_,hrun,_,?_,k2,evo_drew k3⟩
     refine .slice _ _ _ _ _ (Nat.le_refl _) ⟨_,Mem.put_self,by show g+1≠0;omega,Nat.le_refl _,fun _=>⟨hge,.inr ⟨rfl,?_⟩⟩⟩
     show 0+0+G * (g+1)≤cs.size
     rw [hgs];omega
    rcases hd.sliceSome with ⟨a',cap',rfl,_,hcr⟩ | ⟨rfl,rfl,rfl,_⟩
    ·have hcr0:=hcr
     obtain ⟨l',hl',h2⟩:=hcr
     rw [hl] at hl';cases hl'
     rw [hsp] at h2
     obtain ⟨_,_,h3⟩:=h2
     obtain ⟨hcc,h4⟩:=h3 hlenk
     have hold:∃ old',VRels M (c.take (len * i.size)) old'∧(∀ (j:Nat) v,(c.take (len * i.size))[j]?=some v→one v=true)∧∀ (j:Nat) v,old'[j]?=some v→w.cell? (a'.add j)=some v:=by
      by_cases h0:len=0
      ·subst h0
       exact ⟨[],by simpa using VRels.nil,by simp,by simp⟩
      ·have hr:rdN h a (len * i.size)=some (c.take (len * i.size)):=by
        simp only [rdN,rowOf,hob,hsp,stampOk,hkc,beq_self_eq_true,if_true,Option.bind_some,hoff0,Nat.zero_add,if_pos hll,List.drop_zero]
       obtain ⟨q1,q2,cs',q3,q4⟩:=hs.read (capRel_place hcr0 (by omega)) hr
       exact ⟨cs',q3,q2,q4⟩
     obtain ⟨old',ro,o1,hb⟩:=hold
     by_cases hin:len+m≤cap'
     ·-- there is room after all: the row grows where it stands
      rcases h4 with h4 | ⟨rfl,h4⟩
      ·omega
      have hreal:l.real:=by
       right
       have:0<cap' * l.grown:=Nat.mul_pos (by omega) (by omega)
       omega
      obtain ⟨cs,tyb,hblk,hcsz,hoff,hc⟩:=hre hreal
      have hgi:l.grown=i.size:=hg.trans hgs
      rw [hoff0,hgi] at h4
      have hlenn:new'.length=m * i.size:=by rw [← rn.1,hln]
      have hmul:(len+m) * i.size=len * i.size+m * i.size:=Nat.add_mul _ _ _
      have hle2:(len+m) * i.size≤cap' * i.size:=Nat.mul_le_mul_right _ hin
      have hst:=run_storeCells_at E.P l.blk (l.off+len * i.size) _ new' 0 cs w hblk (by omega) hone
      have hcur:(cs.toList.take (l.off+len * i.size+0)++new'++cs.toList.drop (l.off+len * i.size+0+new'.length)).toArray=(splice cs.toList (l.off+len * i.size) new').toArray:=by simp [splice]
      rw [hcur] at hst
      have hsl:l.off+len * i.size+new'.length≤cs.toList.length:=by simp;omega
      obtain ⟨k2,k3⟩:=hs.put (lo:=lo) (t:=t0) (d:=c.take (len * i.size)++new) (cs:=(splice cs.toList (l.off+len * i.size) new').toArray) hl hob hreal hloa
       (by simp [splice_length _ _ _ hsl,hcsz]) (by rw [hdlen];omega) (.inr ⟨by omega,hgrow⟩) (fun j v hv=>by
        have hget:(splice cs.toList (l.off+len * i.size) new').toArray[l.off+j]?=(splice cs.toList (l.off+len * i.size) new')[l.off+j]?:=by simp
        rw [hget,splice_get _ _ _ _ hsl]
        by_cases hj:j<(c.take (len * i.size)).length
        ·rw [List.getElem?_append_left hj] at hv
         rw [if_neg (by omega)]
         rw [List.getElem?_take] at hv
         split at hv
         ·obtain ⟨h6,v',h7,h8⟩:=hc _ v hv
          exact ⟨h6,v',by simpa using h7,h8⟩
         ·cases hv
        ·rw [List.getElem?_append_right (Nat.le_of_not_lt hj)] at hv
         have hjl:j-(c.take (len * i.size)).length<m * i.size:=by
          have:=(List.getElem?_eq_some_iff.1 hv).1;omega
         rw [if_pos (by omega),show l.off+j-(l.off+len * i.size)=j-(c.take (len * i.size)).length by omega]
         obtain ⟨v',h7,h8⟩:=rn.get hv
         exact ⟨o2 _ v hv,v',h7,h8⟩)
      have hadd:(⟨l.blk,l.off+a.off,none⟩:Addr).add (len * i.size)=⟨l.blk,l.off+len * i.size,none⟩:=by rw [hoff0];exact addr_add_add _ _ _
      refine ⟨_,_,room _ len cap' _ hin (by rw [hadd];exact hst),_,?_,k2,by simpa using k3⟩
      refine .slice _ _ _ _ _ (Nat.le_refl _) ⟨_,Mem.put_self,hlg,?_,fun _=>⟨hin,.inr ⟨by rw [hoff0];rfl,?_⟩⟩⟩
      ·show _≤(if g+1=0 then l.len else _)
       rw [if_neg (by omega)];exact Nat.le_refl _
      ·show l.off+0+cap' * l.grown≤l.size
       rw [hgi];exact h4
     ·obtain ⟨v',w',hr,ho⟩:=mv (some a') cap' old' ro o1 (firsts ro hold1 (by simp) (.inr ⟨a',rfl,hb⟩)) (by omega)
      exact ⟨v',w',hr,by simpa using ho⟩
    ·obtain ⟨v',w',hr,ho⟩:=mv none 0 [] (by simpa using VRels.nil) (by simp) (run_firstCells_none _ _ _ _ _) (by omega)
     exact ⟨v',w',hr,by simpa using ho⟩
   ·cases hv
 ·cases hv
theorem append_sound (hs:HSim E B M h w) (hlo:lo≤h.length) {strict:Bool} {ts:Array TypeId} {d d' x x' v:Value} {h':Heap} (hv:aAppend E h lo strict ts d x=some (v,h'))
  (hd:VRel M d d') (hx:VRel M x x') (ty:TypeId) :
  ∃ v' w',(Builtin.append_ ts ty #[d',x']).run E.P w=.ok v' w'∧Out E B (if strict then h.length else lo) M h w v h' v' w':=by
 unfold aAppend at hv
 cases ht0:ts[0]? with
 | none=>simp [ht0] at hv
 | some t =>
 cases ht1:ts[1]? with
 | none=>simp [ht0,ht1] at hv
 | some tx =>
 rw [append_types ht0 ht1]
 simp only [ht0,ht1,Option.bind_some] at hv
 split at hv
 case h_2=>cases hv
 rename_i e e' hu hux
 split at hv
 ·cases hv
 rename_i hee
 have hee:e=e':=by simpa using hee
 subst hee
 simp only [Option.bind_eq_some_iff] at hv
 obtain ⟨i,hi,z,hz,hv⟩:=hv
 split at hv
 ·cases hv
 rename_i hcond
 simp only [not_or,Bool.not_eq_true',Bool.not_eq_false,ne_eq,Decidable.not_not] at hcond
 obtain ⟨hs0,hb0,hf,hzs⟩:=hcond
 simp only [Option.bind_eq_some_iff] at hv
 obtain ⟨⟨new,m⟩,hnew,hv⟩:=hv
 obtain ⟨ax',cx',rfl,hmc,hln,o2,new',rn,hxn,hxc⟩:=sliceCells_sound hs hnew hx
 have hsrc:Src E.P i.size tx (.slice ax' m cx') m new' w:=src_of hux hln o2 rn hxn hxc
 exact append_core hs hlo hu hi hz hs0 hb0 hzs hsrc hln o2 rn hv hd ty
theorem appendN_sound (hs:HSim E B M h w) (hlo:lo≤h.length) {ts:Array TypeId} {d d' x x' v:Value} {h':Heap} (hint:isIntT E.P ts=true) (hv:aAppendN E.P h ts d x=some (v,h'))
  (hd:VRel M d d') (hx:VRel M x x') (ty:TypeId) :
  ∃ v' w',(Builtin.append_ ts ty #[d',x']).run E.P w=.ok v' w'∧Out E B lo M h w v h' v' w':=by
 unfold aAppendN at hv
 unfold isIntT at hint
 cases ht0:ts[0]? with
 | none=>simp [ht0] at hv
 | some t =>
 cases ht1:ts[1]? with
 | none=>simp [ht1] at hint
 | some tx =>
 rw [append_types ht0 ht1]
 simp only [ht0,Option.bind_some] at hv
 simp only [ht1,Option.bind_some] at hint
 split at hint
 case h_2=>cases hint
 rename_i kn hux
 split at hv
 case h_2=>cases hv
 rename_i e hu
 simp only [Option.bind_eq_some_iff] at hv
 obtain ⟨i,hi,z,hz,hv⟩:=hv
 split at hv
 ·cases hv
 rename_i hbad
 have h1:i.size≠0:=fun k=>hbad (.inl k)
 have h2:i.bytes≠0:=fun k=>hbad (.inr (.inl k))
 have h3:flat z=true:=by
  cases hf:flat z
  ·exact absurd (.inr (.inr (.inl (by rw [hf];rfl)))) hbad
  ·rfl
 have h4:z.cells.size=i.size:=Classical.byContradiction fun k=>hbad (.inr (.inr (.inr k)))
 split at hv
 case h_2=>cases hv
 rename_i k m
 split at hv
 case isFalse=>cases hv
 rename_i hm
 cases hv
 obtain ⟨rfl,-,-⟩:=hd.sliceNone
 have:=hx.int
 subst this
 obtain ⟨n,rfl⟩:∃ n:Nat,m=n:=⟨m.toNat,by omega⟩
 simp only [Int.toNat_natCast] at hm ⊢
 have hn:0<n:=by omega
 have hle:n≤n * i.bytes:=Nat.le_mul_of_pos_right _ (by omega)
 have hrun:=Go.Lib.run_append_nil_zeros (P:=E.P) w t tx ty e i z k kn hu hux hi hz n hn (by omega) (by omega) (by omega)
 have hge:=grownCap_ge w n 0 e
 generalize grownCap w n 0 e=G at hrun hge
 have hzz:Builtin.zeroCells z.cells n=zeros z (n * z.cells.size):=rfl
 have hcs:(Builtin.zeroCells z.cells n++Builtin.zeroCells z.cells (G-n)).size=G * i.size:=by
  rw [Array.size_append,size_zeroCells,size_zeroCells,h4,← Nat.add_mul]
  congr 1;omega
 have hl1:(zeros z (n * i.size)).toList.length=n * i.size:=by simp [zeros]
 have hl2:(zeros z (n * i.size)).toList.length≤(Builtin.zeroCells z.cells n++Builtin.zeroCells z.cells (G-n)).size:=by rw [hl1,hcs];exact Nat.mul_le_mul_right _ hge
 have hne:(Builtin.zeroCells z.cells n++Builtin.zeroCells z.cells (G-n)).size≠0:=by rw [hcs];exact Nat.mul_ne_zero (by omega) h1
 have hrel:=zeros_rel (M:=M) h3 (n:=n * i.size) (.inr (by rw [h4];exact h1))
 obtain ⟨k2,k3⟩:=(hs.of_heap (w':=w.drew) rfl).alloc (c:=(zeros z (n * i.size)).toList) (cs:=Builtin.zeroCells z.cells n++Builtin.zeroCells z.cells (G-n)) (t:=e) (ty:=e) (g:=i.size) hl2 (.inr hne)
  (fun j v hv=>hrel.2.1 j v (by simpa using hv)) fun j v v' hv hv'=>by
   have hj:j<n * i.size:=by
    have:=(List.getElem?_eq_some_iff.1 hv).1
    rw [hl1] at this;exact this
   rw [Array.getElem?_append_left (by rw [size_zeroCells,h4];exact hj),hzz,h4] at hv'
   exact hrel.2.2 j v v' (by simpa using hv) hv'
 refine ⟨_,_,hrun,_,?_,k2,evo_drew (k3 lo hlo)⟩
 refine .slice _ _ _ _ _ (Nat.le_refl _) ⟨_,Mem.put_self,h1,Nat.le_refl _,fun _=>⟨hge,.inr ⟨rfl,?_⟩⟩⟩
 show 0+0+G * i.size≤(Builtin.zeroCells z.cells n++Builtin.zeroCells z.cells (G-n)).size
 omega
theorem appendS_sound (hs:HSim E B M h w) (hlo:lo≤h.length) {strict:Bool} {ts:Array TypeId} {d d' x x' v:Value} {h':Heap} (hstr:isStrT E.P ts=true) (hv:aAppendS E h lo strict ts d x=some (v,h'))
  (hd:VRel M d d') (hx:VRel M x x') (ty:TypeId) :
  ∃ v' w',(Builtin.append_ ts ty #[d',x']).run E.P w=.ok v' w'∧Out E B (if strict then h.length else lo) M h w v h' v' w':=by
 unfold isStrT at hstr
 cases ht1:ts[1]? with
 | none=>simp [ht1] at hstr
 | some tx =>
 have hux:E.P.underlying tx=some .string:=by
  simp only [ht1,Option.bind_some] at hstr
  split at hstr
  ·assumption
  ·cases hstr
 unfold aAppendS at hv
 split at hv
 case h_2=>cases hv
 rename_i t b ht0
 rw [append_types ht0 ht1]
 have:=hx.string
 subst this
 split at hv
 case isFalse=>cases hv
 rename_i hsz
 unfold aAppend at hv
 have q0:(#[t,t]:Array TypeId)[0]?=some t:=rfl
 have q1:(#[t,t]:Array TypeId)[1]?=some t:=rfl
 rw [q0,q1] at hv
 simp only [Option.bind_some] at hv
 split at hv
 case h_2=>cases hv
 rename_i e e' hu hu'
 rw [hu] at hu';cases hu'
 simp only [ne_eq,not_true_eq_false,if_false,Option.bind_eq_some_iff] at hv
 obtain ⟨i,hi,z,hz,hv⟩:=hv
 split at hv
 ·cases hv
 rename_i hcond
 simp only [not_or,Bool.not_eq_true',Bool.not_eq_false,Decidable.not_not] at hcond
 obtain ⟨hs0,hb0,hf,hzs⟩:=hcond
 simp only [Option.bind_eq_some_iff] at hv
 obtain ⟨⟨new,m⟩,hnew,hv⟩:=hv
 have hi1:i.size=1:=by simpa [rowSz,hu,szOf,hi] using hsz
 have e1:(bytesV b).flatMap cellsL=bytesV b:=by unfold bytesV;rw [List.flatMap_map];induction b.data.toList with | nil=>rfl | cons y ys ih=>simp only [List.flatMap_cons,List.map_cons,ih];rfl
 have hk:m=b.size∧new=bytesV b:=by
  unfold lst at hnew
  have hall:(bytesV b).all (fun v=>(cellsL v).length == i.size)=true:=by rw [hi1,List.all_eq_true];intro v hv;obtain ⟨y,_,rfl⟩:=List.mem_map.1 hv;rfl
  simp only [sliceCells] at hnew
  rw [if_pos ⟨by decide,hall⟩] at hnew
  obtain ⟨k1,k2⟩:=Prod.mk.inj (Option.some.inj hnew)
  exact ⟨by rw [← k2];simp [bytesV],by rw [← k1,e1]⟩
 obtain ⟨rfl,rfl⟩:=hk
 have hflat:∀ v∈bytesV b,flat v=true:=fun v hv=>by
  obtain ⟨y,_,rfl⟩:=List.mem_map.1 hv;rfl
 refine append_core hs hlo hu hi hz hs0 hb0 hzs (tx:=tx) (new':=bytesV b) (by rw [hi1];exact Src.ofString w hux b) (by rw [hi1];simp [bytesV]) (fun j v hv=>?_) (VRels.of_flat hflat) hv hd ty
 obtain ⟨y,_,rfl⟩:=List.mem_map.1 (List.mem_of_getElem? hv)
 rfl
theorem append2_sound (hs:HSim E B M h w) (hlo:lo≤h.length) {strict:Bool} {ts:Array TypeId} {d d' x x' v:Value} {h':Heap} (hv:aAppend2 E h lo strict ts d x=some (v,h'))
  (hd:VRel M d d') (hx:VRel M x x') (ty:TypeId) :
  ∃ v' w',(Builtin.append_ ts ty #[d',x']).run E.P w=.ok v' w'∧Out E B (if strict then h.length else lo) M h w v h' v' w':=by
 unfold aAppend2 at hv
 split at hv
 ·rename_i hint
  exact appendN_sound hs (by split <;> omega) hint hv hd hx ty
 ·split at hv
  ·rename_i hstr
   exact appendS_sound hs hlo hstr hv hd hx ty
  ·exact append_sound hs hlo hv hd hx ty
theorem copy_sound (hs:HSim E B M h w) {ts:Array TypeId} {d d' x x' v:Value} {h':Heap} (hv:aCopy E h lo ts d x=some (v,h'))
  (hd:VRel M d d') (hx:VRel M x x') (ty:TypeId) :
  ∃ v' w',(Builtin.copy_ ts ty #[d',x']).run E.P w=.ok v' w'∧Out E B lo M h w v h' v' w':=by
 unfold aCopy at hv
 cases ht0:ts[0]? with
 | none=>simp [ht0] at hv
 | some t =>
 simp only [ht0,Option.bind_some] at hv
 split at hv
 case h_2=>cases hv
 rename_i e da dl dc hu
 simp only [Option.bind_eq_some_iff] at hv
 obtain ⟨s,hsz,⟨new,sl⟩,hnew,hv⟩:=hv
 simp only at hv
 obtain ⟨sa',sc',rfl,_,hln,o2,new',rn,hxn,hxc⟩:=sliceCells_sound hs hnew hx
 obtain ⟨da',dc',rfl⟩:∃ da' dc',d'=.slice da' dl dc':=by
  cases da with
  | none=>obtain ⟨rfl,rfl,rfl⟩:=hd.sliceNone;exact ⟨_,_,rfl⟩
  | some a =>
   rcases hd.sliceSome with ⟨a',c',e,_⟩ | ⟨e,rfl,_⟩
   ·exact ⟨_,_,e⟩
   ·exact ⟨_,_,e⟩
 have hfirst:∀ n,n≤sl→(Builtin.firstCells s n (.slice sa' sl sc')).run E.P w=.ok (new'.take (n * s)).toArray w:=by
  intro n hn
  rcases hxc with ⟨rfl,rfl⟩ | ⟨b,rfl,hb⟩
  ·simp [Builtin.firstCells]
  ·refine run_firstCells_some w s n b sl sc' _ ?_ fun j v hv=>?_
   ·have:n * s≤sl * s:=Nat.mul_le_mul_right _ hn
    rw [List.length_take,← rn.1,hln];omega
   ·rw [List.getElem?_take] at hv
    split at hv
    ·exact hb j v hv
    ·cases hv
 split at hv
 ·rename_i h0
  cases hv
  have hmin:Nat.min sl dl=0:=by
   rcases h0 with h0 | h0 <;> subst h0 <;> simp
  refine ⟨.int .i64 0,w,?_,Out.same hs (.atom _ rfl)⟩
  have:=hfirst 0 (Nat.zero_le _)
  simp at this
  cases da' <;> simp [Builtin.copy_,ht0,run_underlying hu,Builtin.lenOf,hmin,run_size hsz,this,storeCells,goInt]
 ·rename_i h0
  split at hv
  case h_2=>cases hv
  rename_i a
  split at hv
  case isFalse=>cases hv
  simp only [Option.map_eq_some_iff] at hv
  obtain ⟨h1,hw,e1⟩:=hv
  cases e1
  rcases hd.sliceSome with ⟨a',c',e2,hlc,hcr⟩ | ⟨_,hz,_⟩
  case inr=>exact absurd (.inl hz) h0
  cases e2
  have hp:=capRel_place hcr (by omega)
  obtain ⟨w',hr,k1,k2⟩:=hs.write hp hw (rn.take _) fun i u hu=>by
   rw [List.getElem?_take] at hu
   split at hu
   ·exact o2 i u hu
   ·cases hu
  refine ⟨.int .i64 (min sl dl:Nat),w',?_,M,.atom _ rfl,k1,k2⟩
  have h1:=hfirst (min sl dl) (Nat.min_le_left _ _)
  simp [Builtin.copy_,ht0,run_underlying hu,Builtin.lenOf,run_size hsz,h1,hr,goInt]
theorem clear_sound (hs:HSim E B M h w) {ts:Array TypeId} {x x' v:Value} {h':Heap} (hv:aClear E.P h lo ts x=some (v,h')) (hx:VRel M x x') (ty:TypeId) :
  ∃ v' w',(Builtin.clear_ ts ty #[x']).run E.P w=.ok v' w'∧Out E B lo M h w v h' v' w':=by
 unfold aClear at hv
 cases ht0:ts[0]? with
 | none=>simp [ht0] at hv
 | some t =>
 simp only [ht0,Option.bind_some] at hv
 split at hv
 ·rename_i e hu
  obtain ⟨rfl,-,-⟩:=hx.sliceNone
  cases hv
  exact ⟨.tuple #[],w,by simp [Builtin.clear_,ht0,run_underlying hu],Out.same hs (.top _)⟩
 ·rename_i e a n cap hu
  split at hv
  ·rename_i h0
   subst h0
   cases hv
   rcases hx.sliceSome with ⟨a',c',rfl,hlc,hcr⟩ | ⟨rfl,_⟩
   ·exact ⟨.tuple #[],w,by simp [Builtin.clear_,ht0,run_underlying hu],Out.same hs (.top _)⟩
   ·exact ⟨.tuple #[],w,by simp [Builtin.clear_,ht0,run_underlying hu],Out.same hs (.top _)⟩
  ·rename_i h0
   rcases hx.sliceSome with ⟨a',c',rfl,hlc,hcr⟩ | ⟨_,hz0,_⟩
   case inr=>exact absurd hz0 h0
   simp only [Option.bind_eq_some_iff] at hv
   obtain ⟨i,hi,z,hz,hv⟩:=hv
   split at hv
   case isFalse=>cases hv
   rename_i hcond
   simp only [Bool.and_eq_true,beq_iff_eq] at hcond
   obtain ⟨⟨hf,hfit⟩,hzs⟩:=hcond
   simp only [Option.map_eq_some_iff] at hv
   obtain ⟨h1,hw,e1⟩:=hv
   cases e1
   have hrel:=zeros_rel (M:=M) hf (n:=n * z.cells.size) (by by_cases hz0:z.cells.size=0 <;> simp [hz0])
   have he:Builtin.zeroCells z.cells n=zeros z (n * z.cells.size):=rfl
   rw [he] at hw
   obtain ⟨w',hr,k1,k2⟩:=hs.write (vs':=(zeros z (n * z.cells.size)).toList) (capRel_place hcr (by omega)) hw ⟨rfl,fun i u u' hu hu'=>hrel.2.2 i u u' (by simpa using hu) (by simpa using hu')⟩ fun i u hu=>hrel.2.1 i u (by simpa using hu)
   refine ⟨.tuple #[],w',?_,M,.top _,k1,k2⟩
   have hn:n≠0:=h0
   cases n with
   | zero=>exact absurd rfl hn
   | succ n=>simp [Builtin.clear_,ht0,run_underlying hu,zeroValue,typeInfo,hi,hz,he,hr]
 ·cases hv
end
end Go.Proofs.YtplebjehcgcdeaaGreatDoor.Bm
