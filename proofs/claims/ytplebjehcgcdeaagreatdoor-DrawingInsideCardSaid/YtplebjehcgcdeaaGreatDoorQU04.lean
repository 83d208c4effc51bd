/-
 The operations that look into memory, extend it or write into it: where the abstract machine has an outcome, the machine has a related one. Conditions: none.
-/
import Derived.Test.YtplebjehcgcdeaaGreatDoorQU03
import Derived.Deep.AppendSrc
import Derived.Laws.CopyRow
namespace Go.Proofs.YtplebjehcgcdeaaGreatDoor.Bm
open Go Go.RowKit
section
variable {E:Env} {B lo:Nat} {M:Mem} {h:Heap} {w:World}
theorem cellsOf_some {v:Value} {cs:List Value} (hc:cellsOf v=some cs):cs=v.cells.toList∧okPart v=true:=by
 unfold cellsOf at hc
 split at hc
 ·cases hc;exact ⟨rfl,rfl⟩
 ·cases hc
 ·cases hc
 ·rename_i h1 h2 h3
  cases hc
  refine ⟨?_,?_⟩
  ·unfold Value.cells;split
   ·exact absurd rfl (h1 _)
   ·rfl
  ·unfold okPart;split
   ·exact absurd rfl (h2 _)
   ·exact absurd rfl (h3 _)
   ·rfl
theorem one_cells {v:Value} (h:one v=true):cellsL v=[v]:=by
 cases v <;> first | rfl | (simp [one] at h)
theorem cptr_cells {w:World} {Φ:Phi} (hphi:∀ b o v,Φ b o=some v→w.cell? ⟨b,o,none⟩=some v) {v:Value} {y:Array Value} {x':Value} (hx:TRel Φ (.func (.yield 2) ⟨[v]⟩ y) x') :
  ∃ (a':Addr) (cs':List Value),x'=.pointer (some a')∧a'.spot=none∧cs'.length=(cellsL v).length∧(∀ (j:Nat) u,(cellsL v)[j]?=some u→one u=true)∧(∀ (j:Nat) u u',(cellsL v)[j]?=some u→cs'[j]?=some u'→TRel Φ u u') ∧
   ∀ (j:Nat) u,cs'[j]?=some u→w.cell? (a'.add j)=some u:=by
 obtain ⟨a',f,rfl,hsp,h1,h2⟩:=hx.cptrSome
 refine ⟨a',(List.range (cellsL v).length).map f,rfl,hsp,by simp,fun j u hu=>(h1 j u hu).1,fun j u u' hu hu'=>?_,fun j u hu=>?_⟩
 ·have hj:=(List.getElem?_eq_some_iff.1 hu).1
  simp [hj] at hu'
  subst hu';exact h2 j u hu
 ·have hj:j<(cellsL v).length:=by
   have:=(List.getElem?_eq_some_iff.1 hu).1;simpa using this
  simp [hj] at hu
  subst hu
  rw [add_spot hsp]
  exact hphi _ _ _ (h1 j _ (List.getElem?_eq_getElem hj)).2
theorem load_sound (hs:HSim E B M h w) {t:TypeId} {x x' v:Value} (hv:aLoad E.P h t x=some v) (hx:VRel M x x') :
  ∃ v',(Instr.loadAt t x').run E.P w=.ok v' w∧VRel M v v':=by
 unfold aLoad at hv
 split at hv
 case h_3=>cases hv
 ·rename_i a
  obtain ⟨a',rfl,hp⟩:=hx.ptrSome
  unfold ofCells at hv
  split at hv
  ·rename_i ha
   simp only [Option.bind_eq_some_iff,Option.map_eq_some_iff] at hv
   obtain ⟨n,hn,cs,hr,rfl⟩:=hv
   obtain ⟨hl,h1,cs',hrel,hc⟩:=hs.read hp hr
   have hrun:=run_loadCells_list (P:=E.P) w a' cs' hc
   rw [← hrel.1,hl] at hrun
   refine ⟨.agg cs'.toArray,by simp [Instr.loadAt,Instr.sureAddr,loadVar,run_agg ha,run_size hn,hrun],.agg _ _ (by simp [hrel.1]) (fun i u hu=>h1 i u (by simpa using hu)) fun i u u' hu hu'=>hrel.2 i u u' (by simpa using hu) (by simpa using hu')⟩
  ·rename_i ha
   simp only [Option.bind_eq_some_iff] at hv
   obtain ⟨cs,hr,h0⟩:=hv
   obtain ⟨_,_,cs',hrel,hc⟩:=hs.read hp hr
   obtain ⟨v',h0',hv'⟩:=hrel.get h0
   have hcell:=hc 0 v' h0'
   simp only [Addr.add,if_true] at hcell
   exact ⟨v',by simp [Instr.loadAt,Instr.sureAddr,loadVar,run_agg ha,run_load,hcell],hv'⟩
  ·cases hv
 ·rename_i u y
  split at hv
  case isFalse=>cases hv
  rename_i hfit
  cases hv
  obtain ⟨a',cs',rfl,hsp,hlen,h1,hrel,hc⟩:=cptr_cells hs.phi hx.treeSome
  unfold fitsT at hfit
  split at hfit
  ·rename_i ha
   simp only [beq_iff_eq] at hfit
   rename_i cs
   have hrun:=run_loadCells_list (P:=E.P) w a' cs' hc
   have hlen':cs'.length=cs.size:=by rw [hlen];simp [cellsL]
   rw [hlen'] at hrun
   refine ⟨.agg cs'.toArray,by simp [Instr.loadAt,Instr.sureAddr,loadVar,run_agg ha,run_size hfit,hrun],.agg _ _ (by simp [hlen']) (fun i u hu=>h1 i u (by simpa [cellsL] using hu)) fun i u u' hu hu'=>(hrel i u u' (by simpa [cellsL] using hu) (by simpa using hu')).toV⟩
  ·rename_i ha
   have hcl:=one_cells hfit
   rw [hcl] at hrel hlen
   have hpos:0<cs'.length:=by rw [hlen];exact Nat.one_pos
   have h0':cs'[0]?=some cs'[0]:=List.getElem?_eq_getElem hpos
   have hcell:=hc 0 _ h0'
   simp only [Addr.add,if_true] at hcell
   exact ⟨cs'[0],by simp [Instr.loadAt,Instr.sureAddr,loadVar,run_agg ha,run_load,hcell],(hrel 0 _ _ rfl h0').toV⟩
  ·cases hfit
theorem ptr_new {l:Loc} (hl:M.obj h.length=some l) (hb:l.blk=w.heap.size) (ho:l.off=0) (hg:l.grown=0):VRel M (ptrTo h) (.pointer (some ⟨w.heap.size,0,none⟩)) :=
 .ptr _ _ ⟨l,hl,hg,by simp [hb,ho]⟩
theorem slice_new {l:Loc} {b len cap:Nat} (hl:M.obj h.length=some l) (hb:l.blk=b) (hc:len≤cap) (ho:l.off=0) (hg:l.grown=0) :
  VRel M (.slice (some ⟨h.length,0,none⟩) len cap) (.slice (some ⟨b,0,none⟩) len cap) :=
 .slice _ _ _ _ _ hc ⟨l,hl,hg,rfl,.inr (by rw [hb,ho];rfl)⟩
theorem box_sound (hs:HSim E B M h w) (hlo:lo≤h.length) {t:TypeId} {x x' v:Value} {h':Heap} (hv:aBox h t x=some (v,h')) (hx:VRel M x x') :
  ∃ v' w',(Instr.box t x').run E.P w=.ok v' w'∧Out E B lo M h w v h' v' w':=by
 unfold aBox at hv
 simp only [Option.map_eq_some_iff] at hv
 obtain ⟨cs,hc,e⟩:=hv
 cases e
 obtain ⟨rfl,hok⟩:=cellsOf_some hc
 obtain ⟨h1,h2,h3⟩:=cells_rel hx hok
 obtain ⟨k2,k3⟩:=hs.alloc (c:=x.cells.toList) (cs:=x'.cells) (t:=t) (ty:=t) (g:=0) (by simp [h1]) (.inl rfl) (fun j u hu=>h2 j u (by simpa using hu)) fun j u u' hu hu'=>h3 j u u' (by simpa using hu) hu'
 exact ⟨_,_,by simp [Instr.box,newVar,newRow],_,ptr_new Mem.put_self rfl rfl rfl,k2,k3 lo hlo⟩
theorem alloc_sound (hs:HSim E B M h w) (hlo:lo≤h.length) {t:TypeId} {v:Value} {h':Heap} (hv:aAlloc E.P h t=some (v,h')) :
  ∃ v' w',(Instr.alloc t true (.tuple #[])).run E.P w=.ok v' w'∧Out E B lo M h w v h' v' w':=by
 unfold aAlloc at hv
 simp only [Option.bind_eq_some_iff] at hv
 obtain ⟨z,⟨i,hi,hz⟩,hv⟩:=hv
 split at hv
 ·rename_i hf
  obtain ⟨v',w',hr,ho⟩:=box_sound (t:=t) hs hlo hv (VRel.of_flat hf)
  refine ⟨v',w',?_,ho⟩
  simpa [Instr.alloc,zeroValue,typeInfo,hi,hz,Instr.box] using hr
 ·cases hv
theorem put_same {o:Nat} {l:Loc} (hl:M.obj o=some l):M.put o l=M:=by
 unfold Mem.put
 congr 1
 funext x
 by_cases e:x=o
 ·subst e;simp [hl]
 ·simp [e]
theorem splice_get (c vs:List Value) (off j:Nat) (hl:off+vs.length≤c.length) :
  (splice c off vs)[j]?=if off≤j∧j<off+vs.length then vs[j-off]? else c[j]?:=by
 unfold splice
 by_cases h1:j<off
 ·rw [if_neg (by omega),List.append_assoc,List.getElem?_append_left (by simp;omega),List.getElem?_take,if_pos h1]
 ·by_cases h2:j<off+vs.length
  ·rw [if_pos ⟨by omega,h2⟩,List.append_assoc,List.getElem?_append_right (by simp;omega),List.getElem?_append_left (by simp;omega)]
   congr 1;simp;omega
  ·rw [if_neg (by omega),List.getElem?_append_right (by simp;omega),List.getElem?_drop]
   congr 1;simp;omega
theorem splice_length (c vs:List Value) (off:Nat) (hl:off+vs.length≤c.length):(splice c off vs).length=c.length:=by
 simp [splice];omega
theorem HSim.write (hs:HSim E B M h w) {a a':Addr} {vs vs':List Value} {h':Heap} (hp:Place M a a') (hw:wrN h lo a vs=some h')
  (hv:VRels M vs vs') (h1:∀ (i:Nat) v,vs[i]?=some v→one v=true) :
  ∃ w',(storeCells a' vs').run E.P w=.ok () w'∧HSim E B M h' w'∧Evo E lo M h w M h' w':=by
 unfold wrN at hw
 split at hw
 case h_2=>cases hw
 rename_i t c g hob
 simp only [Option.ite_none_right_eq_some,Option.some.injEq] at hw
 obtain ⟨⟨hlo,hst,hpos,hle⟩,rfl⟩:=hw
 obtain ⟨l,hl,_⟩:=id hp
 obtain ⟨hg,hlen,hnr,hre⟩:=hs.obj _ l t c g hl hob
 have hreal:l.real:=by
  by_cases hr:l.real
  ·exact hr
  ·have:=hnr hr;subst this;simp only [List.length_nil] at hle;omega
 obtain ⟨cs,ty,hb,hsz,hoff,hc⟩:=hre hreal
 obtain rfl:=place_at hp hl hg hlen hst
 have hone:∀ v∈vs',v.oneCell'=true:=by
  intro v hv'
  obtain ⟨i,hi⟩:=List.mem_iff_getElem?.1 hv'
  have hilt:i<vs.length:=hv.1 ▸ (List.getElem?_eq_some_iff.1 hi).1
  exact (hv.2 i vs[i] v (List.getElem?_eq_getElem hilt) hi).one (h1 i _ (List.getElem?_eq_getElem hilt))
 have hvl:vs.length=vs'.length:=hv.1
 have hrun:=run_storeCells_at E.P l.blk (l.off+a.off) _ vs' 0 cs w hb (by omega) hone
 have hcur:(cs.toList.take (l.off+a.off+0)++vs'++cs.toList.drop (l.off+a.off+0+vs'.length)).toArray=(splice cs.toList (l.off+a.off) vs').toArray:=by simp [splice]
 rw [hcur] at hrun
 have hspl:∀ j,(splice cs.toList (l.off+a.off) vs')[j]?=if l.off+a.off≤j∧j<l.off+a.off+vs'.length then vs'[j-(l.off+a.off)]? else cs[j]?:=by
  intro j;rw [splice_get _ _ _ _ (by simp;omega)];simp
 have hput:=hs.put (t:=t) (c:=c) (d:=splice c a.off vs) (g:=g) (cs:=(splice cs.toList (l.off+a.off) vs').toArray) hl hob hreal hlo
  (by simp [splice_length _ _ _ (show l.off+a.off+vs'.length≤cs.toList.length by simp;omega),hsz]) (by rw [splice_length _ _ _ hle];exact hoff) (.inl (splice_length _ _ _ hle)) (fun j v hv'=>by
   rw [splice_get _ _ _ _ hle] at hv'
   have e1:(splice cs.toList (l.off+a.off) vs').toArray[l.off+j]?=if l.off+a.off≤l.off+j∧l.off+j<l.off+a.off+vs'.length then vs'[l.off+j-(l.off+a.off)]? else cs[l.off+j]?:=by
    rw [← hspl];simp
   rw [e1]
   by_cases hin:a.off≤j∧j<a.off+vs.length
   ·rw [if_pos hin] at hv'
    rw [if_pos (by omega),show l.off+j-(l.off+a.off)=j-a.off by omega]
    obtain ⟨u',hu',hr⟩:=hv.get hv'
    exact ⟨h1 _ v hv',u',hu',hr⟩
   ·rw [if_neg hin] at hv'
    rw [if_neg (by omega)]
    exact hc j v hv')
 have hsame:M.put a.block { l with len:=if g=0 then l.len else (splice c a.off vs).length } = M:=by
  refine put_same ?_
  rw [hl]
  by_cases h0:g=0
  ·simp [h0]
  ·simp [h0,splice_length _ _ _ hle,← hlen h0]
 simp only [hsame] at hput
 exact ⟨_,hrun,hput.1,hput.2⟩
theorem store_sound (hs:HSim E B M h w) {t:TypeId} {x x' a a':Value} {h':Heap} (hv:aStore E.P h lo t x a=some h') (hx:VRel M x x') (ha:VRel M a a') :
  ∃ w',(Instr.storeAt t a' x').run E.P w=.ok () w'∧HSim E B M h' w'∧Evo E lo M h w M h' w':=by
 unfold aStore at hv
 split at hv
 case h_2=>cases hv
 rename_i p
 obtain ⟨p',rfl,hp⟩:=ha.ptrSome
 simp only [Option.bind_eq_some_iff] at hv
 obtain ⟨cs,hc,hv⟩:=hv
 split at hv
 case isFalse=>cases hv
 rename_i hn
 obtain ⟨rfl,hok⟩:=cellsOf_some hc
 obtain ⟨h1,h2,h3⟩:=cells_rel hx hok
 obtain ⟨w',hr,k1,k2⟩:=hs.write (vs':=x'.cells.toList) hp hv ⟨by simp [h1],fun i u u' hu hu'=>h3 i u u' (by simpa using hu) (by simpa using hu')⟩ fun i u hu=>h2 i u (by simpa using hu)
 refine ⟨w',?_,k1,k2⟩
 simp only [Array.length_toList] at hn
 simp [Instr.storeAt,Instr.sureAddr,storeVar,run_size hn,h1,hr]
theorem zeros_one {z:Value} (hf:flat z=true) {n:Nat} (hz:n=0∨z.cells.size≠0):∀ (j:Nat) u,(zeros z n)[j]?=some u→one u=true∧atom u=true:=by
 intro j u hu
 have hatom:∀ x∈z.cells,atom x=true:=by
  unfold flat at hf
  split at hf
  ·exact fun x hx=>(Array.all_eq_true_iff_forall_mem.1 hf) x hx
  ·intro x hx
   have:z.cells=#[z]:=by unfold Bm.atom at hf;split at hf <;> first | rfl | cases hf
   rw [this] at hx;simp at hx;subst hx;exact hf
 simp only [zeros,Array.getElem?_map,Option.map_eq_some_iff] at hu
 obtain ⟨i,hi,rfl⟩:=hu
 have hn:0<n:=by
  have:=(Array.getElem?_eq_some_iff.1 hi).1;simp at this;omega
 have hz':0<z.cells.size:=by omega
 have hlt:i % z.cells.size<z.cells.size:=Nat.mod_lt _ hz'
 have ha:=hatom z.cells[i % z.cells.size] (Array.getElem_mem hlt)
 rw [getElem!_pos z.cells (i % z.cells.size) hlt]
 exact ⟨atom_one ha,ha⟩
theorem zeros_rel {z:Value} (hf:flat z=true) {n:Nat} (hz:n=0∨z.cells.size≠0):ARel M (zeros z n) (zeros z n) :=
 ⟨rfl,fun j u hu=>(zeros_one hf hz j u hu).1,fun j u u' hu hu'=>by rw [hu] at hu';cases hu';exact .atom _ (zeros_one hf hz j u hu).2⟩
theorem chunk_length (s:Nat):∀ (n:Nat) (cs:List Value),(chunk s n cs).length=n
 | 0,_=>rfl
 | n+1,cs=>by simp [chunk,chunk_length s n]
theorem chunk_get (s:Nat):∀ (n:Nat) (cs:List Value) (i:Nat) v,(chunk s n cs)[i]?=some v→v=.agg ⟨(cs.drop (i * s)).take s⟩
 | 0,_,i,v,h=>by simp [chunk] at h
 | n+1,cs,0,v,h=>by simp [chunk] at h;simp [← h]
 | n+1,cs,i+1,v,h=>by
  simp only [chunk,List.getElem?_cons_succ] at h
  rw [chunk_get s n _ i v h,List.drop_drop,Nat.add_mul,Nat.one_mul,Nat.add_comm]
theorem elems_lst {P:Program} {e:TypeId} {Φ:Phi} {n len cap':Nat} {cs cs':List Value} {l:List Value} {a':Addr} (hn:n<2) (he:elemsOf P e len cs=some l) {s:Nat} (hsz:szOf P e=some s) (hl:cs.length=len * s) (hsp:a'.spot=none) (hcap:len≤cap') (hx:n=1→cap'=len)
  (h1:∀ (j:Nat) v,cs[j]?=some v→one v=true) (hr:∀ (j:Nat) v v',cs[j]?=some v→cs'[j]?=some v'→TRel Φ v v') (hlen:cs.length≤cs'.length) (hphi:∀ (j:Nat) v,cs'[j]?=some v→Φ a'.block (a'.off+j)=some v) :
  TRel Φ (.func (.yield n) ⟨[]⟩ ⟨l⟩) (.slice (some a') len cap'):=by
 have hcell:∀ (j:Nat) v,cs[j]?=some v→∃ v',cs'[j]?=some v'∧TRel Φ v v'∧Φ a'.block (a'.off+j)=some v':=by
  intro j v hv
  have hj:=(List.getElem?_eq_some_iff.1 hv).1
  have e:=List.getElem?_eq_getElem (Nat.lt_of_lt_of_le hj hlen)
  exact ⟨_,e,hr j v _ hv e,hphi j _ e⟩
 unfold elemsOf at he
 rw [hsz] at he
 have key:∀ (l:List Value),l.length=len→(∀ (i:Nat) v,l[i]?=some v→(cellsL v).length=s∧∀ (j:Nat) u,(cellsL v)[j]?=some u→cs[i * s+j]?=some u)→TRel Φ (.func (.yield n) ⟨[]⟩ ⟨l⟩) (.slice (some a') len cap'):=by
  intro l hll hg
  have:=TRel.lst (Φ:=Φ) n hn l a' cap' s (fun i j=>(cs'[i * s+j]?).getD undef) (by omega) (by intro e;rw [hx e,hll]) (.inr hsp) (fun i v hv=>⟨(hg i v hv).1,fun j u hu=>by
   obtain ⟨v',q1,q2,q3⟩:=hcell _ u ((hg i v hv).2 j u hu)
   exact ⟨h1 _ u ((hg i v hv).2 j u hu),by rw [q1];exact q3⟩⟩) fun i v hv j u hu=>by
   obtain ⟨v',q1,q2,q3⟩:=hcell _ u ((hg i v hv).2 j u hu)
   rw [q1];exact q2
  rw [hll] at this
  exact this
 split at he
 ·rename_i hs1
  cases hs1
  cases he
  refine key cs (by omega) fun i v hv=>?_
  have hc:=one_cells (h1 i v hv)
  rw [hc]
  refine ⟨rfl,fun j u hu=>?_⟩
  cases j with
  | zero=>simp at hu;subst hu;simpa using hv
  | succ j=>simp at hu
 ·rename_i s' _ hs1
  cases hs1
  cases he
  refine key _ (chunk_length s len cs) fun i v hv=>?_
  have hi:i<len:=by have:=(List.getElem?_eq_some_iff.1 hv).1;rw [chunk_length] at this;exact this
  have e:=chunk_get s len cs i v hv
  subst e
  have hle:(i+1) * s≤len * s:=Nat.mul_le_mul_right _ hi
  rw [Nat.add_mul,Nat.one_mul] at hle
  refine ⟨by simp [cellsL];omega,fun j u hu=>?_⟩
  simp only [cellsL,List.getElem?_take,List.getElem?_drop] at hu
  split at hu
  ·exact hu
  ·cases hu
 ·cases he
theorem fill_size {place:Nat→Option (Nat × Nat)}:∀ (l:List (Nat × Value)) (cells r:Array Value),Instr.fill place cells l=some r→r.size=cells.size
 | [],cells,r,h=>by simp [Instr.fill] at h;rw [h]
 | (i,v) :: rest,cells,r,h=>by
  simp only [Instr.fill] at h
  cases hpl:place i with
  | none=>simp [hpl] at h
  | some os =>
   obtain ⟨off,size⟩:=os
   simp only [hpl] at h
   split at h
   ·cases h
   ·rw [fill_size rest _ _ h]
    have e1:∀ (x:Array Value) (c:Array Value),x.zipIdx.foldl (fun cs (y:Value × Nat)=>cs.setIfInBounds (off+y.2) y.1) c=(x.toList.zipIdx 0).foldl (fun cs (y:Value × Nat)=>cs.setIfInBounds (off+y.2) y.1) c:=by
     intro x c;rw [← Array.foldl_toList];simp
    rw [e1]
    exact (foldl_set off v.cells.toList 0 cells).1
theorem buildSlice_sound (hs:HSim E B M h w) (hlo:lo≤h.length) {t:TypeId} {len:Nat} {parts parts':Array (Nat × Value)} {lv:Bool} {v:Value} {h':Heap} (hv:aBuildSlice E.P lv h t len parts=some (v,h'))
  (hl:parts.size=parts'.size) (hp:∀ (i:Nat) p p',parts[i]?=some p→parts'[i]?=some p'→p.1=p'.1∧VRel M p.2 p'.2) :
  ∃ v' w',(Instr.buildSlice t len parts').run E.P w=.ok v' w'∧Out E B lo M h w v h' v' w':=by
 unfold aBuildSlice at hv
 split at hv
 case h_2=>cases hv
 rename_i e hu
 simp only [Option.bind_eq_some_iff] at hv
 obtain ⟨i,hi,z,hz,hv⟩:=hv
 split at hv
 ·cases hv
 ·rename_i hcond
  simp only [not_or,Bool.not_eq_true',Bool.not_eq_false,not_and,Nat.not_lt,gt_iff_lt,ne_eq] at hcond
  obtain ⟨hsz,hf,hz0,hok⟩:=hcond
  simp only [Option.bind_eq_some_iff] at hv
  obtain ⟨cs,hfill,hv⟩:=hv
  have hz1:len * i.size=0∨z.cells.size≠0:=by
   by_cases h0:len * i.size=0
   ·exact .inl h0
   ·exact .inr (hz0 h0)
  have hrel0:ARel M (if len * i.size=0 then #[] else zeros z (len * i.size)) (if len * i.size=0 then #[] else zeros z (len * i.size)):=by
   split
   ·exact ⟨rfl,fun j u hu=>by simp at hu,fun j u _ hu=>by simp at hu⟩
   ·exact zeros_rel hf hz1
  obtain ⟨cs',hfill',hrel⟩:=fill_sound _ parts'.toList _ _ cs hfill hok (by simpa using hl) (fun j p p' h1 h2=>hp j p p' (by simpa using h1) (by simpa using h2)) hrel0
  have hrun:(Instr.buildSlice t len parts').run E.P w=.ok (.slice (some ⟨w.heap.size,0,none⟩) len len) (w.alloc (.cells cs' e)):=by
   have hsz':¬ (16777216<len * i.size):=by omega
   have r0:Array.range 0=#[]:=rfl
   by_cases h0:len * i.size=0
   ·rw [if_pos h0] at hfill'
    simp [Instr.buildSlice,run_underlying hu,sizeOf,typeInfo,hi,h0,r0,hfill',newRow]
   ·rw [if_neg h0] at hfill'
    unfold zeros at hfill'
    simp [Instr.buildSlice,run_underlying hu,sizeOf,typeInfo,zeroValue,hi,hz,h0,hsz',hfill',newRow]
  have hcsz:cs.toList.length=len * i.size:=by
   rw [Array.length_toList,fill_size _ _ _ hfill]
   split
   ·rename_i h0;rw [h0];rfl
   ·simp [zeros]
  split at hv
  ·rename_i hlv
   simp only [Bool.and_eq_true,bne_iff_ne,ne_eq] at hlv
   have hne:=hlv.2
   have hgr:i.size≠0:=by
    intro h0
    rw [h0,Nat.mul_zero] at hcsz
    exact hne (by simpa using hcsz)
   cases hv
   obtain ⟨k2,k3⟩:=hs.alloc (c:=cs.toList) (cs:=cs') (t:=e) (ty:=e) (g:=i.size) (by simp [hrel.1]) (.inr (by rw [← hrel.1];exact hne)) (fun j u hu=>hrel.2.1 j u (by simpa using hu)) fun j u u' hu hu'=>hrel.2.2 j u u' (by simpa using hu) hu'
   refine ⟨_,_,hrun,_,VRel.slice _ _ len len len (Nat.le_refl _) ⟨_,Mem.put_self,?_⟩,k2,k3 lo hlo⟩
   refine ⟨hgr,Nat.le_refl _,fun _=>⟨Nat.le_refl _,.inr ⟨rfl,?_⟩⟩⟩
   show 0+0+len * i.size≤cs'.size
   rw [← hrel.1,← hcsz];simp
  split at hv
  ·rename_i hset
   simp only [Option.map_eq_some_iff] at hv
   obtain ⟨l,hel,e⟩:=hv
   cases e
   obtain ⟨k1,k2⟩:=hs.tree (cs:=cs') (ty:=e) hlo
   refine ⟨_,_,hrun,_,VRel.tree _ _ _ _ ?_,k1,k2⟩
   refine elems_lst (s:=i.size) (cs':=cs'.toList) (by decide) hel (by simp [szOf,hi]) hcsz rfl (Nat.le_refl _) (fun _=>rfl) (fun j v hv=>hrel.2.1 j v (by simpa using hv)) (fun j v v' hv hv'=>?_) (by simp [hrel.1]) fun j v hv=>?_
   ·exact ((hrel.2.2 j v v' (by simpa using hv) (by simpa using hv')).settle (List.all_eq_true.1 hset v (List.mem_of_getElem? hv))).mono k2.le.phi
   ·simp only [Mem.fix,if_true]
    rw [Nat.zero_add];simpa using hv
  ·cases hv
   obtain ⟨k2,k3⟩:=hs.alloc (c:=cs.toList) (cs:=cs') (t:=e) (ty:=e) (g:=0) (by simp [hrel.1]) (.inl rfl) (fun j u hu=>hrel.2.1 j u (by simpa using hu)) fun j u u' hu hu'=>hrel.2.2 j u u' (by simpa using hu) hu'
   exact ⟨_,_,hrun,_,slice_new Mem.put_self rfl (Nat.le_refl _) rfl rfl,k2,k3 lo hlo⟩
theorem makeSlice_sound (hs:HSim E B M h w) (hlo:lo≤h.length) {t:TypeId} {l l' c c' v:Value} {h':Heap} (hv:aMakeSlice E.P h t l c=some (v,h')) (hl:VRel M l l') (hc:VRel M c c') :
  ∃ v' w',(Instr.makeSlice t l' c').run E.P w=.ok v' w'∧Out E B lo M h w v h' v' w':=by
 unfold aMakeSlice at hv
 split at hv
 case h_2=>cases hv
 rename_i e k1 l k2 c hu
 obtain rfl:=hl.int
 obtain rfl:=hc.int
 simp only [Option.bind_eq_some_iff] at hv
 obtain ⟨i,hi,z,hz,hv⟩:=hv
 split at hv
 case isFalse=>cases hv
 rename_i hcond
 obtain ⟨hl0,hlc,hc63,hby,hf,hz0⟩:=hcond
 cases hv
 have hrel:=zeros_rel (M:=M) hf (n:=c.toNat * i.size) (.inr hz0)
 obtain ⟨m2,m3⟩:=hs.alloc (c:=(zeros z (c.toNat * i.size)).toList) (cs:=zeros z (c.toNat * i.size)) (t:=e) (ty:=e) (g:=0) (by simp) (.inl rfl) (fun j u hu=>hrel.2.1 j u (by simpa using hu)) fun j u u' hu hu'=>hrel.2.2 j u u' (by simpa using hu) hu'
 refine ⟨.slice (some ⟨w.heap.size,0,none⟩) l.toNat c.toNat,w.alloc (.cells (zeros z (c.toNat * i.size)) e),?_,_,slice_new Mem.put_self rfl (by omega) rfl rfl,m2,m3 lo hlo⟩
 have hw:∀ x:Int,0≤x→x≤9223372036854775807→IntKind.i64.wrap x=x:=by
  intro x h0 h1
  unfold IntKind.wrap
  simp [IntKind.bits,IntKind.signed]
  omega
 have hwl:=hw l hl0 (by omega)
 have hwc:=hw c (by omega) hc63
 have n1:¬ (c<0):=by omega
 have n2:¬ (281474976710656<(i.bytes:Int) * c):=by omega
 have n3:¬ (l<0):=by omega
 have n4:¬ (c<l):=by omega
 have r0:Array.range 0=#[]:=rfl
 by_cases h0:c.toNat * i.size=0
 ·simp only [Instr.makeSlice,Sem.run_bind,run_underlying hu,Result.andThen_ok,asInt,asIntOf,Sem.run_pure,typeInfo,run_program,hi,hwl,hwc]
  simp [n1,n2,n3,n4,askRoom,sizeOf,typeInfo,hi,newRow,zeros,h0,r0]
 ·simp only [Instr.makeSlice,Sem.run_bind,run_underlying hu,Result.andThen_ok,asInt,asIntOf,Sem.run_pure,typeInfo,run_program,hi,hwl,hwc]
  simp [n1,n2,n3,n4,askRoom,sizeOf,typeInfo,zeroValue,hi,hz,newRow,zeros,h0]
theorem bound_sound {P:Program} {v v':Option Value} {y y' d n:Nat} (code:BoundsCode) (hb:bound v y d=some n) (hy:y≤y')
  (hv:∀ u,v=some u→∃ u',v'=some u'∧VRel M u u') :
  ∀ u',v'=some u'→v≠none→(Instr.sliceBound u' y' code).run P w=.ok n w∧n≤y:=by
 intro u' hu' hne
 unfold bound at hb
 split at hb
 ·exact absurd rfl hne
 ·rename_i k m
  split at hb
  case isFalse=>cases hb
  rename_i hm
  cases hb
  obtain ⟨u'',e,hu⟩:=hv _ rfl
  rw [hu'] at e;cases e
  obtain rfl:=hu.int
  have h1:0≤m∧m≤(y':Int):=by omega
  exact ⟨by simp [Instr.sliceBound,asIntOf,h1],by omega⟩
 ·cases hb
theorem bound_none {y d n:Nat} (hb:bound none y d=some n):n=d:=by simpa [bound] using hb.symm
def ORel (M:Mem) (v v':Option Value):Prop:=(v=none∧v'=none)∨∃ u u',v=some u∧v'=some u'∧VRel M u u'
theorem sliceBounds_sound {P:Program} {isS:Bool} {len cap cap' m u l:Nat} {lo hi mx lo' hi' mx':Option Value} (hlc:len≤cap) (hcc:cap≤cap') (hmh:(mx.isSome && hi.isNone)=false)
  (hbm:bound mx cap cap=some m) (hbu:bound hi m len=some u) (hbl:bound lo u 0=some l) (hlo:ORel M lo lo') (hhi:ORel M hi hi') (hmx:ORel M mx mx') :
  ∃ m',(Instr.sliceBounds isS len cap' lo' hi' mx').run P w=.ok (l,u,m') w∧l≤u∧u≤m∧m≤cap∧m≤m'∧m'≤cap'∧(cap'=cap∨mx.isSome=true→m'=m):=by
 have key:∀ {v v':Option Value} {y y' d n:Nat} (code:BoundsCode),bound v y d=some n→y≤y'→∀ u u',v=some u→v'=some u'→VRel M u u'→(Instr.sliceBound u' y' code).run P w=.ok n w∧n≤y:=by
  intro v v' y y' d n code hb hy u u' hu hu' hr
  exact bound_sound (P:=P) (w:=w) code hb hy (v':=v') (fun x hx=>⟨u',hu',by rw [hu] at hx;cases hx;exact hr⟩) u' hu' (by rw [hu];simp)
 rcases hmx with ⟨rfl,rfl⟩ | ⟨um,um',rfl,rfl,rm⟩
 ·obtain rfl:=bound_none hbm
  have hul:u≤m∧(match hi' with | some v=>Instr.sliceBound v cap' (if isS then .sliceAcap else .sliceAlen) | none=>pure len:Sem Nat).run P w=.ok u w:=by
   rcases hhi with ⟨rfl,rfl⟩ | ⟨uh,uh',rfl,rfl,rh⟩
   ·obtain rfl:=bound_none hbu;exact ⟨hlc,by simp⟩
   ·obtain ⟨h1,h2⟩:=key (if isS then .sliceAcap else .sliceAlen) hbu hcc uh uh' rfl rfl rh;exact ⟨h2,h1⟩
  have hll:l≤u∧(match lo' with | some v=>Instr.sliceBound v u .sliceB | none=>pure 0:Sem Nat).run P w=.ok l w:=by
   rcases hlo with ⟨rfl,rfl⟩ | ⟨uh,uh',rfl,rfl,rh⟩
   ·obtain rfl:=bound_none hbl;exact ⟨Nat.zero_le _,by simp⟩
   ·obtain ⟨h1,h2⟩:=key .sliceB hbl (Nat.le_refl _) uh uh' rfl rfl rh;exact ⟨h2,h1⟩
  refine ⟨cap',?_,hll.1,hul.1,Nat.le_refl _,hcc,Nat.le_refl _,fun e=>e.resolve_right (by simp)⟩
  have e1:=hul.2
  have e2:=hll.2
  cases hi' <;> cases lo' <;> simp at e1 e2 <;> simp [Instr.sliceBounds,e1,e2]
 ·obtain ⟨h1,h2⟩:=key .slice3Acap hbm hcc um um' rfl rfl rm
  obtain ⟨h1',_⟩:=key .slice3Alen hbm hcc um um' rfl rfl rm
  have hn:hi≠none:=by intro e;subst e;simp at hmh
  rcases hhi with ⟨e,_⟩ | ⟨uh,uh',rfl,rfl,rh⟩
  ·exact absurd e hn
  obtain ⟨h3,h4⟩:=key .slice3B hbu (Nat.le_refl _) uh uh' rfl rfl rh
  have hll:l≤u∧(match lo' with | some v=>Instr.sliceBound v u .slice3C | none=>pure 0:Sem Nat).run P w=.ok l w:=by
   rcases hlo with ⟨rfl,rfl⟩ | ⟨ul,ul',rfl,rfl,rl⟩
   ·obtain rfl:=bound_none hbl;exact ⟨Nat.zero_le _,by simp⟩
   ·obtain ⟨h1,h2⟩:=key .slice3C hbl (Nat.le_refl _) ul ul' rfl rfl rl;exact ⟨h2,h1⟩
  refine ⟨m,?_,hll.1,h4,h2,Nat.le_refl _,Nat.le_trans h2 hcc,fun _=>rfl⟩
  have e2:=hll.2
  cases isS <;> cases lo' <;> simp at e2 <;> simp [Instr.sliceBounds,h1,h1',h3,e2]
theorem fits_grown (hs:HSim E B M h w) {a:Addr} {s:Nat} (hf:fitsRow h a s=true) {l:Loc} (hl:M.obj a.block=some l):(l.grown=0∨l.grown=s)∧∀ k,a.spot=some k→l.len=k:=by
 unfold fitsRow at hf
 split at hf
 ·rename_i t c g hob
  obtain ⟨hg,hlen,_⟩:=hs.obj _ l t _ g hl hob
  simp only [Bool.and_eq_true,Bool.or_eq_true,beq_iff_eq] at hf
  obtain ⟨hst,hf⟩:=hf
  refine ⟨by omega,fun k hk=>?_⟩
  clear hf
  rw [hk] at hst
  cases g with
  | zero=>cases hst
  | succ g =>
   rw [hlen (by omega)]
   exact (beq_iff_eq.1 (show (k == c.length)=true from hst)).symm
 ·cases hf
theorem addr_add_add (b o n:Nat):(⟨b,o,none⟩:Addr).add n=⟨b,o+n,none⟩:=by
 unfold Addr.add;split
 ·rename_i hn;subst hn;rfl
 ·rfl
theorem slice_sound (hs:HSim E B M h w) {t:TypeId} {x x' v:Value} {lo hi mx lo' hi' mx':Option Value} (hv:aSlice E.P h t x lo hi mx=some v) (hx:VRel M x x')
  (hlo:ORel M lo lo') (hhi:ORel M hi hi') (hmx:ORel M mx mx') :
  ∃ v',(Instr.sliceAt t x' lo' hi' mx').run E.P w=.ok v' w∧VRel M v v':=by
 unfold aSlice at hv
 split at hv
 ·rename_i s hu
  obtain rfl:=hx.string
  split at hv
  ·cases hv
  rename_i hmn
  simp only [Option.bind_eq_some_iff,Option.map_eq_some_iff] at hv
  obtain ⟨u,hbu,l,hbl,rfl⟩:=hv
  have em:mx=none:=by cases mx <;> simp at hmn ⊢
  subst em
  obtain ⟨m',r,_⟩:=sliceBounds_sound (P:=E.P) (w:=w) (isS:=false) (Nat.le_refl _) (Nat.le_refl _) rfl (by simp [bound]) hbu hbl hlo hhi (.inl ⟨rfl,rfl⟩)
  refine ⟨.string (s.extract l u),?_,.atom _ rfl⟩
  rcases hmx with ⟨_,rfl⟩ | ⟨_,_,h,_⟩
  ·simp [Instr.sliceAt,Instr.slice,run_underlying hu,r]
  ·cases h
 ·rename_i e hu
  obtain ⟨rfl,-,-⟩:=hx.sliceNone
  simp only [Option.bind_eq_some_iff] at hv
  obtain ⟨s,hsz,hv⟩:=hv
  split at hv
  ·cases hv
  rename_i hmh
  simp only [Option.bind_eq_some_iff,Option.map_eq_some_iff] at hv
  obtain ⟨m,hbm,u,hbu,l,hbl,rfl⟩:=hv
  obtain ⟨m',r,h1,h2,h3,h4,h5,h6⟩:=sliceBounds_sound (P:=E.P) (w:=w) (isS:=true) (Nat.le_refl _) (Nat.le_refl _) (by simpa only [Bool.not_eq_true] using hmh) hbm hbu hbl hlo hhi hmx
  refine ⟨.slice none 0 0,?_,.atom _ rfl⟩
  have e1:l=0:=by omega
  have e2:u=0:=by omega
  have e3:m'=0:=by omega
  subst e1;subst e2;subst e3
  simp [Instr.sliceAt,Instr.slice,run_underlying hu,r,run_size hsz]
 ·rename_i e a len cap hu
  simp only [Option.bind_eq_some_iff] at hv
  obtain ⟨s,hsz,hv⟩:=hv
  split at hv
  case isFalse=>cases hv
  rename_i hfit
  split at hv
  ·cases hv
  rename_i hmh
  simp only [Option.bind_eq_some_iff,Option.map_eq_some_iff] at hv
  obtain ⟨m,hbm,u,hbu,l,hbl,rfl⟩:=hv
  rcases hx.sliceSome with ⟨a',cap',rfl,hlc,hcr⟩ | ⟨rfl,rfl,rfl,k,lc,hsp,hob,hgr,hk⟩
  ·obtain ⟨lc,k1,k2⟩:=id hcr
   obtain ⟨hg,hst⟩:=fits_grown hs hfit k1
   have hcc:cap≤cap':=by
    cases hsp:a.spot with
    | none=>rw [hsp] at k2;omega
    | some k=>rw [hsp] at k2;exact (k2.2.2 (hst k hsp)).1
   obtain ⟨m',r,h1,h2,h3,h4,h5,h6⟩:=sliceBounds_sound (P:=E.P) (w:=w) (isS:=true) hlc hcc (by simpa only [Bool.not_eq_true] using hmh) hbm hbu hbl hlo hhi hmx
   have hrun:(Instr.sliceAt t (.slice (some a') len cap') lo' hi' mx').run E.P w=.ok (.slice (some (if m'=l then a' else a'.add (l * s))) (u-l) (m'-l)) w:=by
    by_cases e:m'=l
    ·simp [Instr.sliceAt,Instr.slice,run_underlying hu,r,run_size hsz,e]
    ·simp [Instr.sliceAt,Instr.slice,run_underlying hu,r,run_size hsz,e]
   refine ⟨_,hrun,?_⟩
   unfold rowSl
   by_cases hml:(mx.isSome && m == l)=true
   ·rw [if_pos hml]
    simp only [Bool.and_eq_true,beq_iff_eq] at hml
    have e6:=h6 (.inr hml.1)
    have e7:u-l=0:=by omega
    have e8:m'-l=0:=by omega
    rw [e7,e8]
    exact .tree _ _ _ _ (TRel.lst 1 (by decide) [] _ 0 0 (fun _ _=>undef) (Nat.le_refl _) (by simp) (.inl rfl) (fun i v hv=>by simp at hv) fun i v hv=>by simp at hv)
   rw [if_neg hml]
   refine .slice _ _ _ _ _ (by omega) ⟨lc,k1,?_⟩
   simp only [shift]
   cases hsp:a.spot with
   | none =>
    rw [hsp] at k2
    obtain ⟨q1,q2,q3⟩:=k2
    refine ⟨q1,by rw [h6 (.inl q2)],?_⟩
    by_cases e:m'=l
    ·exact .inl (by omega)
    ·right
     rcases q3 with q3 | rfl
     ·omega
     ·rw [if_neg e,addr_add_add,Nat.add_assoc]
   | some k =>
    rw [hsp] at k2
    obtain ⟨q1,q2,q3⟩:=k2
    refine ⟨q1,q2,fun e0=>?_⟩
    obtain ⟨q4,q5⟩:=q3 e0
    refine ⟨by omega,?_⟩
    by_cases e:m'=l
    ·exact .inl (by omega)
    ·right
     rcases q5 with q5 | ⟨rfl,q5⟩
     ·omega
     ·rw [if_neg e]
      refine ⟨by rw [addr_add_add,Nat.add_assoc],?_⟩
      have hgs:lc.grown=s:=hg.resolve_left q1
      rw [hgs] at q5 ⊢
      have e1:l * s+(m'-l) * s=m' * s:=by rw [← Nat.add_mul];congr 1;omega
      have e2:m' * s≤cap' * s:=Nat.mul_le_mul_right _ h5
      omega
  ·obtain ⟨m',r,h1,h2,h3,h4,h5,h6⟩:=sliceBounds_sound (P:=E.P) (w:=w) (isS:=true) (Nat.le_refl _) (Nat.le_refl _) (by simpa only [Bool.not_eq_true] using hmh) hbm hbu hbl hlo hhi hmx
   have e1:l=0:=by omega
   have e2:u=0:=by omega
   have e3:m'=0:=by omega
   have e4:m=0:=by omega
   subst e1;subst e2;subst e3;subst e4
   refine ⟨.slice none 0 0,by simp [Instr.sliceAt,Instr.slice,run_underlying hu,r,run_size hsz],?_⟩
   unfold rowSl
   split
   ·exact .tree _ _ _ _ (TRel.lnil 1 (by decide))
   ·exact .empty _ k lc hsp hob hgr hk
 ·rename_i e k z tl hu
  simp only [Option.bind_eq_some_iff] at hv
  obtain ⟨s,hsz,hv⟩:=hv
  split at hv
  case isFalse=>cases hv
  rename_i hcond
  obtain ⟨hk,hall,hmh⟩:=hcond
  simp only [Option.bind_eq_some_iff,Option.map_eq_some_iff] at hv
  obtain ⟨m,hbm,u,hbu,l,hbl,rfl⟩:=hv
  have hmh':(mx.isSome && hi.isNone)=false:=by simpa only [Bool.not_eq_true] using hmh
  have hn2:∀ b:Bool,(if b then 1 else 0)<2:=by intro b;cases b <;> decide
  rcases hx.treeSome.lstSome hk with ⟨rfl,rfl⟩ | ⟨a',cap',s0,f,rfl,hc,hxx,hsp,q1,q2⟩
  ·obtain ⟨m',r,h1,h2,h3,h4,h5,h6⟩:=sliceBounds_sound (P:=E.P) (w:=w) (isS:=true) (Nat.le_refl _) (Nat.le_refl _) hmh' hbm hbu hbl hlo hhi hmx
   simp only [List.length_nil] at h3 h5
   have e1:l=0:=by omega
   have e2:u=0:=by omega
   have e3:m'=0:=by omega
   subst e1;subst e2;subst e3
   simp only [List.length_nil] at r
   exact ⟨.slice none 0 0,by simp [Instr.sliceAt,Instr.slice,run_underlying hu,r,run_size hsz],.tree _ _ _ _ (TRel.lnil _ (hn2 _))⟩
  ·obtain ⟨m',r,h1,h2,h3,h4,h5,h6⟩:=sliceBounds_sound (P:=E.P) (w:=w) (isS:=true) (Nat.le_refl _) hc hmh' hbm hbu hbl hlo hhi hmx
   have hrun:(Instr.sliceAt t (.slice (some a') tl.length cap') lo' hi' mx').run E.P w=.ok (.slice (some (if m'=l then a' else a'.add (l * s))) (u-l) (m'-l)) w:=by
    by_cases e:m'=l
    ·simp [Instr.sliceAt,Instr.slice,run_underlying hu,r,run_size hsz,e]
    ·simp [Instr.sliceAt,Instr.slice,run_underlying hu,r,run_size hsz,e]
   refine ⟨_,hrun,.tree _ _ _ _ ?_⟩
   have hlen:((tl.take u).drop l).length=u-l:=by simp;omega
   have hget:∀ (i:Nat) v,((tl.take u).drop l)[i]?=some v→tl[l+i]?=some v∧l+i<u:=by
    intro i v hv
    rw [List.getElem?_drop,List.getElem?_take] at hv
    split at hv
    ·exact ⟨hv,‹_›⟩
    ·cases hv
   have hs0:∀ v∈tl,s0=s:=by
    intro v hv
    obtain ⟨i,hi⟩:=List.mem_iff_getElem?.1 hv
    have:=List.all_eq_true.1 hall v hv
    rw [← (q1 i v hi).1];simpa using this
   have:=TRel.lst (Φ:=M.phi) _ (hn2 ((k == 1 || mx.isSome) && u == m)) ((tl.take u).drop l) (if m'=l then a' else a'.add (l * s)) (m'-l) s0 (fun i j=>f (l+i) j) (by omega) (fun e=>?_) ?_ (fun i v hv=>?_) fun i v hv=>q2 _ v (hget i v hv).1
   ·rw [hlen] at this;exact this
   ·rw [hlen]
    have:((k == 1 || mx.isSome) && u == m)=true:=by
     cases hb:((k == 1 || mx.isSome) && u == m) with
     | true=>rfl
     | false=>rw [hb] at e;cases e
    simp only [Bool.and_eq_true,Bool.or_eq_true,beq_iff_eq] at this
    rw [h6 (this.1.imp hxx id),this.2]
   ·by_cases e:u=l
    ·left
     apply List.eq_nil_of_length_eq_zero;omega
    ·right
     have hspn:a'.spot=none:=hsp.resolve_left fun h=>by rw [h] at h3;simp at h3;omega
     rw [if_neg (by omega),add_spot hspn]
   ·obtain ⟨hv1,hv2⟩:=hget i v hv
    refine ⟨(q1 _ v hv1).1,fun j x hx=>?_⟩
    obtain ⟨z1,z2⟩:=(q1 _ v hv1).2 j x hx
    have e:m'≠l:=by omega
    have hs:s0=s:=hs0 v (List.mem_of_getElem? hv1)
    have hspn:a'.spot=none:=hsp.resolve_left fun h=>by rw [h] at hv1;simp at hv1
    rw [if_neg e,add_spot hspn]
    refine ⟨z1,?_⟩
    rw [← z2,hs]
    show M.phi a'.block (a'.off+l * s+(i * s+j))=_
    congr 1
    rw [Nat.add_mul];omega
 ·cases hv
theorem len_sound (hs:HSim E B M h w) {ts:Array TypeId} {x x' v:Value} (hv:aLen E h ts x=some v) (hx:VRel M x x') (ty:TypeId) :
  ∃ v',(Builtin.len_ ts ty #[x']).run E.P w=.ok v' w∧VRel M v v':=by
 unfold aLen at hv
 cases h0:ts[0]? with
 | none=>simp [h0] at hv
 | some t =>
  simp only [h0,Option.bind_some] at hv
  split at hv
  ·rename_i s hu
   obtain rfl:=hx.string
   cases hv
   exact ⟨_,by simp [Builtin.len_,h0,run_underlying hu,goInt],.atom _ rfl⟩
  ·rename_i n e hu
   cases hv
   exact ⟨_,by simp [Builtin.len_,h0,run_underlying hu,goInt],.atom _ rfl⟩
  ·rename_i e a n c hu
   cases hv
   cases a with
   | none =>
    obtain ⟨rfl,_,_⟩:=hx.sliceNone
    exact ⟨_,by simp [Builtin.len_,h0,run_underlying hu,goInt],.atom _ rfl⟩
   | some a =>
    rcases hx.sliceSome with ⟨a',c',rfl,_⟩ | ⟨rfl,rfl,_⟩
    ·exact ⟨_,by simp [Builtin.len_,h0,run_underlying hu,goInt],.atom _ rfl⟩
    ·exact ⟨_,by simp [Builtin.len_,h0,run_underlying hu,goInt],.atom _ rfl⟩
  ·rename_i e k z tl hu
   split at hv
   case isFalse=>cases hv
   rename_i hk
   cases hv
   rcases hx.treeSome.lstSome hk with ⟨rfl,rfl⟩ | ⟨a',cap',s,f,rfl,_⟩
   ·exact ⟨_,by simp [Builtin.len_,h0,run_underlying hu,goInt],.atom _ rfl⟩
   ·exact ⟨_,by simp [Builtin.len_,h0,run_underlying hu,goInt],.atom _ rfl⟩
  ·rename_i hu
   obtain rfl:=hx.mapNone
   cases hv
   exact ⟨_,by simp [Builtin.len_,h0,run_underlying hu,goInt],.atom _ rfl⟩
  ·rename_i r hu
   obtain ⟨l,hl,_,rfl⟩:=hx.mapSome
   split at hv
   ·rename_i es clock hob
    cases hv
    obtain ⟨_,es',h1,h2,_⟩:=hs.mp _ l es clock hl hob
    exact ⟨.int .i64 es.length,by simp [Builtin.len_,h0,run_underlying hu,goInt,getObj,Sem.run,h1,h2],.atom _ rfl⟩
   ·cases hv
  ·cases hv
theorem cap_sound {ts:Array TypeId} {x x' v:Value} (hv:aCap E.P ts x=some v) (hx:VRel M x x') (ty:TypeId) :
  ∃ v',(Builtin.cap_ ts ty #[x']).run E.P w=.ok v' w∧VRel M v v':=by
 unfold aCap at hv
 cases h0:ts[0]? with
 | none=>simp [h0] at hv
 | some t =>
  simp only [h0,Option.bind_some] at hv
  split at hv
  ·rename_i e hu
   obtain ⟨rfl,_,_⟩:=hx.sliceNone
   cases hv
   exact ⟨_,by simp [Builtin.cap_,h0,run_underlying hu,goInt],.atom _ rfl⟩
  ·rename_i e a n c hu
   split at hv
   case isFalse=>cases hv
   rename_i hsp
   cases hv
   have hsp:a.spot=none:=by simpa using hsp
   rcases hx.sliceSome with ⟨a',c',rfl,_,l,_,hcr⟩ | ⟨_,_,_,k,lc,hk,_⟩
   ·rw [hsp] at hcr
    obtain ⟨_,rfl,_⟩:=hcr
    exact ⟨_,by simp [Builtin.cap_,h0,run_underlying hu,goInt],.atom _ rfl⟩
   ·rw [hsp] at hk;cases hk
  ·rename_i e k z tl hu
   split at hv
   case isFalse=>cases hv
   rename_i hk
   subst hk
   cases hv
   rcases hx.treeSome.lstSome (by decide) with ⟨rfl,rfl⟩ | ⟨a',cap',s,f,rfl,_,hxx,_⟩
   ·exact ⟨_,by simp [Builtin.cap_,h0,run_underlying hu,goInt],.atom _ rfl⟩
   ·have:=hxx rfl
    subst this
    exact ⟨_,by simp [Builtin.cap_,h0,run_underlying hu,goInt],.atom _ rfl⟩
  ·cases hv
end
end Go.Proofs.YtplebjehcgcdeaaGreatDoor.Bm
