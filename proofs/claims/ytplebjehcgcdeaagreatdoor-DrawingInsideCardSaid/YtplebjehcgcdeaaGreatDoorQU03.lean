/-
 The operations that look at their operands alone: where the abstract machine has a value, the machine has a related one, and leaves the world as it is. Conditions: none.
-/
import Derived.Test.YtplebjehcgcdeaaGreatDoorQU02
import Derived.Laws.StructEq
import Derived.ChangeKeysEq
namespace Go.Proofs.YtplebjehcgcdeaaGreatDoor.Bm
open Go Go.RowKit
section
variable {P:Program} {w:World} {M:Mem}
theorem run_size {t:TypeId} {n:Nat} (h:szOf P t=some n):(sizeOf t).run P w=.ok n w:=by
 unfold szOf at h
 cases hi:P.info? t with
 | none=>simp [hi] at h
 | some i=>simp [hi] at h;simp [sizeOf,typeInfo,hi,h]
theorem run_agg {t:TypeId} {b:Bool} (h:aggT P t=some b):(isAgg t).run P w=.ok b w:=by
 unfold aggT at h
 cases hu:P.underlying t with
 | none=>simp [hu] at h
 | some d =>
  simp only [hu,Option.map_some,Option.some.injEq] at h
  unfold isAgg
  rw [Sem.run_bind,run_underlying hu]
  cases d <;> simp at h <;> subst h <;> rfl
theorem part_sound {t:TypeId} {cs cs':Array Value} {off:Nat} {v:Value} (h:aPart P t cs off=some v) (hs:cs.size=cs'.size)
  (h1:∀ (i:Nat) u,cs[i]?=some u→one u=true) (hc:∀ (i:Nat) u u',cs[i]?=some u→cs'[i]?=some u'→VRel M u u') :
  ∃ v',(part t cs' off).run P w=.ok v' w∧VRel M v v':=by
 unfold aPart at h
 cases ha:aggT P t with
 | none=>simp [ha] at h
 | some b =>
  cases b with
  | true =>
   simp only [ha] at h
   cases hz:szOf P t with
   | none=>simp [hz] at h
   | some n =>
    simp [hz] at h;subst h
    refine ⟨.agg (cs'.extract off (off+n)),by simp [part,run_agg ha,run_size hz],.agg _ _ (by simp [hs]) ?_ ?_⟩
    ·intro i u hu
     rw [Array.getElem?_extract] at hu
     split at hu
     ·exact h1 _ u hu
     ·cases hu
    ·intro i u u' hu hu'
     rw [Array.getElem?_extract] at hu hu'
     rw [hs] at hu
     split at hu
     ·rename_i hi;rw [if_pos hi] at hu';exact hc _ u u' hu hu'
     ·cases hu
  | false =>
   simp only [ha] at h
   have ho:off<cs'.size:=hs ▸ (Array.getElem?_eq_some_iff.1 h).1
   refine ⟨cs'[off],by simp [part,run_agg ha,ho],hc off v _ h (by simp [ho])⟩
theorem field_sound {t:TypeId} {f:Nat} {x x' v:Value} (h:aField P t f x=some v) (hx:VRel M x x') :
  ∃ v',(Instr.field t x' f).run P w=.ok v' w∧VRel M v v':=by
 unfold aField at h
 split at h
 case h_2=>cases h
 rename_i cs
 obtain ⟨cs',rfl,hs,h1,hc⟩:=hx.aggSome
 split at h
 case h_2=>cases h
 rename_i fs hu
 cases hf:fs[f]? with
 | none=>simp [hf] at h
 | some fd =>
  simp [hf] at h
  obtain ⟨v',hr,hv⟩:=part_sound (w:=w) h hs h1 hc
  exact ⟨v',by simp [Instr.field,run_underlying hu,hf,asAgg,hr],hv⟩
theorem place_shift {a a':Addr} (hp:Place M a a') (n:Nat):Place M (shift a n) (a'.add n):=by
 obtain ⟨l,h1,h2⟩:=hp
 have hadd:∀ b o,(⟨b,o+a.off,none⟩:Addr).add n=⟨b,o+(a.off+n),none⟩:=by
  intro b o;unfold Addr.add;split
  ·rename_i hn;subst hn;simp
  ·simp;omega
 refine ⟨l,h1,?_⟩
 show match a.spot with
  | none=>l.grown=0∧a'.add n=⟨l.blk,l.off+(a.off+n),none⟩
  | some k=>l.grown≠0∧k≤l.len∧(l.len=k→a'.add n=⟨l.blk,l.off+(a.off+n),none⟩)
 cases hsp:a.spot with
 | none=>rw [hsp] at h2;exact ⟨h2.1,by rw [h2.2,hadd]⟩
 | some k=>rw [hsp] at h2;exact ⟨h2.1,h2.2.1,fun e=>by rw [h2.2.2 e,hadd]⟩
theorem cptr_mk {Φ:Phi} {v:Value} {a':Addr} {f:Nat→Value} (hsp:a'.spot=none) (h:∀ (j:Nat) u,(cellsL v)[j]?=some u→one u=true∧Φ a'.block (a'.off+j)=some (f j)) (k:∀ (j:Nat) u,(cellsL v)[j]?=some u→TRel Φ u (f j)) :
  TRel Φ (cptr v) (.pointer (some a')):=.cptr v a' f hsp h k
theorem add_spot {a:Addr} {n:Nat} (h:a.spot=none):a.add n=⟨a.block,a.off+n,none⟩:=by
 unfold Addr.add;split
 ·rename_i e;subst e;cases a;simp_all
 ·rfl
theorem part_cptr {Φ:Phi} {t:TypeId} {cs:Array Value} {off:Nat} {v:Value} {a':Addr} {f:Nat→Value} (hp:aPart P t cs off=some v) (hsp:a'.spot=none)
  (h:∀ (j:Nat) u,cs[j]?=some u→one u=true∧Φ a'.block (a'.off+j)=some (f j)) (k:∀ (j:Nat) u,cs[j]?=some u→TRel Φ u (f j)):TRel Φ (cptr v) (.pointer (some (a'.add off))):=by
 rw [add_spot hsp]
 unfold aPart at hp
 split at hp
 ·simp only [Option.map_eq_some_iff] at hp
  obtain ⟨n,_,rfl⟩:=hp
  have hget:∀ (j:Nat) u,(cellsL (.agg (cs.extract off (off+n))))[j]?=some u→cs[off+j]?=some u:=by
   intro j u hu
   simp only [cellsL,Array.getElem?_toList,Array.getElem?_extract] at hu
   split at hu
   ·exact hu
   ·cases hu
  exact cptr_mk (f:=fun j=>f (off+j)) rfl (fun j u hu=>⟨(h _ u (hget j u hu)).1,by have:=(h _ u (hget j u hu)).2;simpa [Nat.add_assoc] using this⟩) fun j u hu=>k _ u (hget j u hu)
 ·have h1:=(h off v hp).1
  have hcl:cellsL v=[v]:=by cases v <;> first | rfl | cases h1
  refine cptr_mk (f:=fun j=>f (off+j)) rfl (fun j u hu=>?_) fun j u hu=>?_ <;>
  ·rw [hcl] at hu
   cases j with
   | zero=>simp at hu;subst hu;first | (exact ⟨h1,by simpa using (h off v hp).2⟩) | (simpa using k off v hp)
   | succ j=>simp at hu
 ·cases hp
theorem fieldAddr_sound {t:TypeId} {f:Nat} {x x' v:Value} (h:aFieldAddr P t f x=some v) (hx:VRel M x x') :
  ∃ v',(Instr.fieldAt t x' f).run P w=.ok v' w∧VRel M v v':=by
 unfold aFieldAddr at h
 split at h
 case h_3=>cases h
 ·rename_i a
  obtain ⟨a',rfl,hp⟩:=hx.ptrSome
  split at h
  case h_2=>cases h
  rename_i fs hu
  cases hf:fs[f]? with
  | none=>simp [hf] at h
  | some fd =>
   simp only [hf,Option.bind_some] at h
   split at h
   case h_2=>cases h
   rename_i n hz
   cases h
   exact ⟨.pointer (some (a'.add fd.offset)),by simp [Instr.fieldAt,run_underlying hu,hf,Instr.sureAddr,fieldPlace,run_size hz],.ptr _ _ (place_shift hp _)⟩
 ·rename_i v0 y
  obtain ⟨a',fc,rfl,hsp,hc,hk⟩:=hx.treeSome.cptrSome
  split at h
  case isFalse=>cases h
  split at h
  case h_2=>cases h
  rename_i fs hu
  cases hf:fs[f]? with
  | none=>simp [hf] at h
  | some fd =>
   simp only [hf,Option.bind_some] at h
   split at h
   case h_2=>cases h
   rename_i n hz
   simp only [Option.map_eq_some_iff] at h
   obtain ⟨u,hfu,rfl⟩:=h
   unfold aField at hfu
   split at hfu
   case h_2=>cases hfu
   rename_i cs
   rw [hu] at hfu
   simp only [hf,Option.bind_some] at hfu
   exact ⟨.pointer (some (a'.add fd.offset)),by simp [Instr.fieldAt,run_underlying hu,hf,Instr.sureAddr,fieldPlace,run_size hz],(part_cptr hfu hsp (fun j u hu=>hc j u (by simpa [cellsL] using hu)) fun j u hu=>hk j u (by simpa [cellsL] using hu)).toV⟩
theorem capRel_place {a a':Addr} {cap cap':Nat} (h:CapRel M a a' cap cap') (hc:0<cap):Place M a a':=by
 obtain ⟨l,h1,h2⟩:=h
 refine ⟨l,h1,?_⟩
 split at h2
 ·rcases h2.2.2 with h | h
  ·omega
  ·exact ⟨h2.1,h⟩
 ·refine ⟨h2.1,h2.2.1,fun e=>?_⟩
  obtain ⟨h3,h4⟩:=h2.2.2 e
  rcases h4 with h | h
  ·omega
  ·exact h.1
theorem indexAddr_sound {t:TypeId} {x x' i i' v:Value} (h:aIndexAddr P t x i=some v) (hx:VRel M x x') (hi:VRel M i i') :
  ∃ v',(Instr.indexAt t x' i').run P w=.ok v' w∧VRel M v v':=by
 unfold aIndexAddr at h
 split at h
 case h_2=>cases h
 rename_i k n
 obtain rfl:=hi.int
 split at h
 ·rename_i len e a hu
  obtain ⟨a',rfl,hp⟩:=hx.ptrSome
  split at h
  case isFalse=>cases h
  rename_i hn
  cases hz:szOf P e with
  | none=>simp [hz] at h
  | some s =>
   simp [hz] at h;subst h
   exact ⟨_,by simp [Instr.indexAt,asIntOf,run_underlying hu,Instr.sureAddr,hn,run_size hz],.ptr _ _ (place_shift hp _)⟩
 ·rename_i e a len cap hu
  split at h
  case isFalse=>cases h
  rename_i hn
  rcases hx.sliceSome with ⟨a',c',rfl,hl,hp⟩ | ⟨_,h0,_⟩
  case inr=>omega
  cases hz:szOf P e with
  | none=>simp [hz] at h
  | some s =>
   simp [hz] at h;subst h
   exact ⟨_,by simp [Instr.indexAt,asIntOf,run_underlying hu,hn,run_size hz],.ptr _ _ (place_shift (capRel_place hp (by omega)) _)⟩
 ·rename_i e k x0 l hu
  split at h
  case isFalse=>cases h
  rename_i hn
  obtain ⟨hk2,hn0⟩:=hn
  simp only [Option.bind_eq_some_iff] at h
  obtain ⟨u,hlu,h⟩:=h
  split at h
  case isFalse=>cases h
  rename_i hfit
  simp only [Bool.and_eq_true,beq_iff_eq] at hfit
  cases h
  rcases hx.treeSome.lstSome hk2 with ⟨rfl,rfl⟩ | ⟨a',cap',s,f,rfl,hc,_,hsp,h1,h2⟩
  ·simp at hlu
  have hlt:=(List.getElem?_eq_some_iff.1 hlu).1
  have hs:(cellsL u).length=s:=(h1 _ u hlu).1
  rw [hs] at hfit
  have hsp':a'.spot=none:=hsp.resolve_left fun e=>by rw [e] at hlt;simp at hlt
  have hnn:0≤n∧n<(l.length:Nat):=⟨hn0,by omega⟩
  refine ⟨.pointer (some (a'.add (n.toNat * s))),by simp [Instr.indexAt,asIntOf,run_underlying hu,hnn,run_size hfit.2],?_⟩
  refine VRel.tree _ _ _ _ (cptr_mk (f:=f n.toNat) (by rw [add_spot hsp']) (fun j w hw=>?_) fun j w hw=>h2 _ u hlu j w hw)
  obtain ⟨q1,q2⟩:=(h1 _ u hlu).2 j w hw
  exact ⟨q1,by rw [add_spot hsp'];simpa [Nat.add_assoc] using q2⟩
 ·rename_i len e k a y hu
  split at h
  case isFalse=>cases h
  rename_i hn
  obtain ⟨rfl,hn⟩:=hn
  simp only [Option.bind_eq_some_iff,Option.map_eq_some_iff] at h
  obtain ⟨cs,ha,u,hpu,rfl⟩:=h
  unfold oneAgg at ha
  split at ha
  case h_2=>cases ha
  cases ha
  obtain ⟨a',fc,rfl,hsp,hc,hk⟩:=hx.treeSome.cptrSome
  unfold aPartOf at hpu
  simp only [Option.bind_eq_some_iff] at hpu
  obtain ⟨s,hz,hpu⟩:=hpu
  exact ⟨.pointer (some (a'.add (n.toNat * s))),by simp [Instr.indexAt,asIntOf,run_underlying hu,Instr.sureAddr,hn,run_size hz],(part_cptr hpu hsp (fun j u hu=>hc j u (by simpa [cellsL] using hu)) fun j u hu=>hk j u (by simpa [cellsL] using hu)).toV⟩
 ·cases h
theorem index_sound {t:TypeId} {x x' i i' v:Value} (h:aIndex P t x i=some v) (hx:VRel M x x') (hi:VRel M i i') :
  ∃ v',(Instr.index t x' i').run P w=.ok v' w∧VRel M v v':=by
 unfold aIndex at h
 split at h
 case h_2=>cases h
 rename_i k n
 obtain rfl:=hi.int
 split at h
 ·rename_i len e cs hu
  obtain ⟨cs',rfl,hs,h1,hc⟩:=hx.aggSome
  split at h
  case isFalse=>cases h
  rename_i hn
  cases hz:szOf P e with
  | none=>simp [hz] at h
  | some s =>
   simp [hz] at h
   obtain ⟨v',hr,hv⟩:=part_sound (w:=w) h hs h1 hc
   exact ⟨v',by simp [Instr.index,asIntOf,run_underlying hu,hn,run_size hz,hr],hv⟩
 ·rename_i s hu
  obtain rfl:=hx.string
  split at h
  case isFalse=>cases h
  rename_i hn
  cases hb:s[n.toNat]? with
  | none=>simp [hb] at h
  | some b =>
   simp [hb] at h;subst h
   exact ⟨_,by simp [Instr.index,asIntOf,run_underlying hu,hn,hb],.atom _ rfl⟩
 ·cases h
theorem extract_sound {x x' v:Value} {i:Nat} (h:(match x with | .tuple vs=>vs[i]? | _=>none)=some v) (hx:VRel M x x') :
  ∃ v',(Instr.extract x' i).run P w=.ok v' w∧VRel M v v':=by
 split at h
 case h_2=>cases h
 rename_i vs
 have hi:i<vs.size:=(Array.getElem?_eq_some_iff.1 h).1
 obtain ⟨vs',rfl,hs,hc⟩:=hx.tupleSome (by omega)
 exact ⟨vs'[i],by simp [Instr.extract,hs ▸ hi],hc i v _ h (by simp [hs ▸ hi])⟩
theorem un_sound {op:UnOp} {x x' v:Value} (h:aUn op x=some v) (hx:VRel M x x') :
  ∃ v',(Op.unary op x').run P w=.ok v' w∧VRel M v v':=by
 unfold aUn at h
 split at h
 ·obtain rfl:=hx.int
  cases h
  exact ⟨_,by simp [Op.unary,Op.intArith],.atom _ rfl⟩
 ·obtain rfl:=hx.int
  simp [aIntOp] at h
  subst h
  exact ⟨_,by simp [Op.unary,Op.intBits],.atom _ rfl⟩
 ·obtain rfl:=hx.bool
  cases h
  exact ⟨_,by simp [Op.unary],.atom _ rfl⟩
 ·cases h
theorem convert_sound {src dst:TypeId} {x x' v:Value} (h:aConvert P src dst x=some v) (hx:VRel M x x') :
  ∃ v',(convert src dst x').run P w=.ok v' w∧VRel M v v':=by
 unfold aConvert at h
 split at h
 ·rename_i d k k' n h1 h2
  obtain rfl:=hx.int
  cases h
  exact ⟨_,by simp [convert,run_underlying h1,run_underlying h2,Conv.intToInt],.atom _ rfl⟩
 ·rename_i d s h1 h2
  obtain rfl:=hx.string
  cases h
  exact ⟨.string s,by cases d <;> simp [convert,run_underlying h1,run_underlying h2],.atom _ rfl⟩
 ·cases h
theorem intOp_sound {op:BinOp} {k:IntKind} {a b:Int} {v:Value} (h:aIntOp op k a b=some v) (h1:op≠.shl) (h2:op≠.shr) (t:TypeId) :
  (binOp op t (.int k a) (.int k b)).run P w=.ok v w∧atom v=true:=by
 cases op
 all_goals simp only [aIntOp] at h
 all_goals first
  | (simp only [reduceCtorEq] at h;done)
  | (have e:=Option.some.inj h;subst e;exact ⟨by simp [binOp,Op.intArith,Op.intBits,Op.intCmp],rfl⟩)
  | (split at h
     ·cases h
     ·rename_i hb
      have e:=Option.some.inj h;subst e;exact ⟨by simp [binOp,Op.intDiv,hb],rfl⟩)
theorem shift_sound {op:BinOp} {k k':IntKind} {a b:Int} {v:Value} (h:aShift op k a b=some v) (t:TypeId) :
  (binOp op t (.int k a) (.int k' b)).run P w=.ok v w∧atom v=true:=by
 unfold aShift at h
 split at h
 ·cases h
 ·rename_i hb
  split at h
  ·cases h;exact ⟨by simp [binOp,Op.shift,hb],rfl⟩
  ·cases h;exact ⟨by simp [binOp,Op.shift,hb],rfl⟩
  ·cases h
theorem stringOp_sound {op:BinOp} {a b:ByteArray} {v:Value} (h:aStringOp op a b=some v) (t:TypeId) :
  (binOp op t (.string a) (.string b)).run P w=.ok v w∧atom v=true:=by
 cases op
 all_goals simp only [aStringOp] at h
 all_goals first
  | (simp only [reduceCtorEq] at h;done)
  | (have e:=Option.some.inj h;subst e;exact ⟨by simp [binOp,Op.stringOp],rfl⟩)
  | (split at h
     ·cases h
     ·rename_i hb
      have e:=Option.some.inj h;subst e
      have hb':¬ ((9223372036854775807:Int)<(a.size:Int)+(b.size:Int)):=by simpa [IntKind.max,IntKind.signed,IntKind.bits] using hb
      exact ⟨by simp [binOp,Op.stringOp];omega,rfl⟩)
theorem allOf_cons {o:Option Bool} {r:List (Option Bool)} {b:Bool} (h:allOf (o :: r)=some b):(o=some true∧allOf r=some b)∨(o=some false∧b=false):=by
 cases o with
 | none=>simp [allOf] at h
 | some t=>cases t <;> simp [allOf] at h <;> simp [h]
theorem eqFields_sound {d:Nat} {xs ys xs' ys':Array Value} (hsx:xs.size=xs'.size) (hsy:ys.size=ys'.size)
  (h1x:∀ (i:Nat) u,xs[i]?=some u→one u=true) (h1y:∀ (i:Nat) u,ys[i]?=some u→one u=true)
  (hx:∀ (i:Nat) u u',xs[i]?=some u→xs'[i]?=some u'→VRel M u u') (hy:∀ (i:Nat) u u',ys[i]?=some u→ys'[i]?=some u'→VRel M u u')
  (ih:∀ t x y b x' y',aEq P d t x y=some b→VRel M x x'→VRel M y y'→(Op.equalIn d t x' y').run P w=.ok b w) :
  ∀ (fs : List Field) (b : Bool), allOf (fs.map fun f => if f.name ≠ "_" then
    (aPart P f.type xs f.offset).bind fun u=>(aPart P f.type ys f.offset).bind fun v=>aEq P d f.type u v else some true)=some b →
   (Op.eqFields d xs' ys' fs).run P w=.ok b w
 | [],b,h=>by simp [allOf] at h;subst h;simp [Op.eqFields]
 | f :: fs,b,h=>by
  rw [List.map_cons] at h
  have hrest:=eqFields_sound hsx hsy h1x h1y hx hy ih fs
  simp only [Op.eqFields]
  by_cases hn : f.name ≠ "_"
  ·rw [if_pos hn] at h
   rw [if_pos hn]
   have key:∀ r,((aPart P f.type xs f.offset).bind fun u=>(aPart P f.type ys f.offset).bind fun v=>aEq P d f.type u v)=some r →
     ∃ u v,(part f.type xs' f.offset).run P w=.ok u w∧(part f.type ys' f.offset).run P w=.ok v w∧(Op.equalIn d f.type u v).run P w=.ok r w:=by
    intro r hr
    cases hu:aPart P f.type xs f.offset with
    | none=>simp [hu] at hr
    | some u =>
     cases hv:aPart P f.type ys f.offset with
     | none=>simp [hu,hv] at hr
     | some v =>
      simp [hu,hv] at hr
      obtain ⟨u',hu1,hu2⟩:=part_sound (w:=w) hu hsx h1x hx
      obtain ⟨v',hv1,hv2⟩:=part_sound (w:=w) hv hsy h1y hy
      exact ⟨u',v',hu1,hv1,ih _ _ _ _ _ _ hr hu2 hv2⟩
   rcases allOf_cons h with ⟨h1,h2⟩ | ⟨h1,h2⟩
   ·obtain ⟨u,v,e1,e2,e3⟩:=key _ h1
    simp [e1,e2,e3,hrest b h2]
   ·obtain ⟨u,v,e1,e2,e3⟩:=key _ h1
    subst h2
    simp [e1,e2,e3]
  ·rw [if_neg hn] at h
   rw [if_neg hn]
   rcases allOf_cons h with ⟨_,h2⟩ | ⟨h1,_⟩
   ·exact hrest b h2
   ·simp at h1
theorem eqElems_sound {d n:Nat} {e:TypeId} {xs ys xs' ys':Array Value} (hsx:xs.size=xs'.size) (hsy:ys.size=ys'.size)
  (h1x:∀ (i:Nat) u,xs[i]?=some u→one u=true) (h1y:∀ (i:Nat) u,ys[i]?=some u→one u=true)
  (hx:∀ (i:Nat) u u',xs[i]?=some u→xs'[i]?=some u'→VRel M u u') (hy:∀ (i:Nat) u u',ys[i]?=some u→ys'[i]?=some u'→VRel M u u')
  (ih:∀ t x y b x' y',aEq P d t x y=some b→VRel M x x'→VRel M y y'→(Op.equalIn d t x' y').run P w=.ok b w) :
  ∀ (l:List Nat) (b:Bool),allOf (l.map fun i=>(aPart P e xs (i * n)).bind fun u=>(aPart P e ys (i * n)).bind fun v=>aEq P d e u v)=some b →
   (Op.eqItems d e n xs' ys' l).run P w=.ok b w
 | [],b,h=>by simp [allOf] at h;subst h;simp [Op.eqItems]
 | i :: l,b,h=>by
  rw [List.map_cons] at h
  have hrest:=eqElems_sound (n:=n) (e:=e) hsx hsy h1x h1y hx hy ih l
  have key:∀ r,((aPart P e xs (i * n)).bind fun u=>(aPart P e ys (i * n)).bind fun v=>aEq P d e u v)=some r →
    ∃ u v,(part e xs' (i * n)).run P w=.ok u w∧(part e ys' (i * n)).run P w=.ok v w∧(Op.equalIn d e u v).run P w=.ok r w:=by
   intro r hr
   cases hu:aPart P e xs (i * n) with
   | none=>simp [hu] at hr
   | some u =>
    cases hv:aPart P e ys (i * n) with
    | none=>simp [hu,hv] at hr
    | some v =>
     simp [hu,hv] at hr
     obtain ⟨u',hu1,hu2⟩:=part_sound (w:=w) hu hsx h1x hx
     obtain ⟨v',hv1,hv2⟩:=part_sound (w:=w) hv hsy h1y hy
     exact ⟨u',v',hu1,hv1,ih _ _ _ _ _ _ hr hu2 hv2⟩
  rcases allOf_cons h with ⟨h1,h2⟩ | ⟨h1,h2⟩
  ·obtain ⟨u,v,e1,e2,e3⟩:=key _ h1
   simp [Op.eqItems,e1,e2,e3,hrest b h2]
  ·obtain ⟨u,v,e1,e2,e3⟩:=key _ h1
   subst h2
   simp [Op.eqItems,e1,e2,e3]
theorem eq_sound:∀ (d:Nat) (t:TypeId) (x y:Value) (b:Bool) (x' y':Value),aEq P d t x y=some b→VRel M x x'→VRel M y y'→(Op.equalIn d t x' y').run P w=.ok b w:=by
 intro d
 induction d with
 | zero=>intro t x y b x' y' h;simp [aEq] at h
 | succ d ih =>
  intro t x y b x' y' h hx hy
  unfold aEq at h
  split at h
  ·rename_i hu
   obtain rfl:=hx.bool;obtain rfl:=hy.bool
   cases h;simp [Op.equalIn,run_underlying hu]
  ·rename_i hu
   obtain rfl:=hx.int;obtain rfl:=hy.int
   split at h
   ·rename_i hk;subst hk;cases h;simp [Op.equalIn,run_underlying hu]
   ·cases h
  ·rename_i hu
   obtain rfl:=hx.string;obtain rfl:=hy.string
   cases h;exact run_equalIn_string w d t _ _ hu
  ·rename_i c hu
   obtain rfl:=hx.ptrNone
   cases h
   cases c with
   | none=>obtain rfl:=hy.ptrNone;simp [Op.equalIn,run_underlying hu]
   | some c=>obtain ⟨c',rfl,_⟩:=hy.ptrSome;simp [Op.equalIn,run_underlying hu]
  ·rename_i hu
   obtain ⟨c',rfl,_⟩:=hx.ptrSome
   obtain rfl:=hy.ptrNone
   cases h;simp [Op.equalIn,run_underlying hu]
  ·rename_i hu
   obtain ⟨rfl,rfl,rfl⟩:=hx.sliceNone
   obtain ⟨rfl,rfl,rfl⟩:=hy.sliceNone
   cases h;simp [Op.equalIn,run_underlying hu]
  ·rename_i hu
   obtain ⟨rfl,rfl,rfl⟩:=hx.sliceNone
   split at h
   ·cases h
   ·rename_i hc
    rcases hy.sliceSome with ⟨c',_,rfl,_⟩ | ⟨_,_,h0,_⟩
    ·cases h;simp [Op.equalIn,run_underlying hu]
    ·exact absurd h0 hc
  ·rename_i k z l hu
   obtain ⟨rfl,rfl,rfl⟩:=hx.sliceNone
   split at h
   ·cases h
   ·rename_i hc
    have ht:=hy.treeSome
    cases ht with
    | lnil=>simp at hc
    | lst _ _ _ a'=>cases h;simp [Op.equalIn,run_underlying hu]
    | cptr=>simp at hc
    | atom _ ha=>simp [Bm.atom] at ha
  ·rename_i k z l hu
   obtain ⟨rfl,rfl,rfl⟩:=hy.sliceNone
   split at h
   ·cases h
   ·rename_i hc
    have ht:=hx.treeSome
    cases ht with
    | lnil=>simp at hc
    | lst _ _ _ a'=>cases h;simp [Op.equalIn,run_underlying hu]
    | cptr=>simp at hc
    | atom _ ha=>simp [Bm.atom] at ha
  ·rename_i hu
   obtain ⟨rfl,rfl,rfl⟩:=hy.sliceNone
   split at h
   ·cases h
   ·rename_i hc
    rcases hx.sliceSome with ⟨c',_,rfl,_⟩ | ⟨_,_,h0,_⟩
    ·cases h;simp [Op.equalIn,run_underlying hu]
    ·exact absurd h0 hc
  ·rename_i c hu
   obtain rfl:=hx.mapNone
   cases h
   cases c with
   | none=>obtain rfl:=hy.mapNone;simp [Op.equalIn,run_underlying hu]
   | some c=>obtain ⟨c',_,_,rfl⟩:=hy.mapSome;simp [Op.equalIn,run_underlying hu]
  ·rename_i hu
   obtain ⟨c',_,_,rfl⟩:=hx.mapSome
   obtain rfl:=hy.mapNone
   cases h;simp [Op.equalIn,run_underlying hu]
  ·rename_i hu
   obtain rfl:=hx.nilFunc;obtain rfl:=hy.nilFunc
   cases h;simp [Op.equalIn,run_underlying hu]
  ·rename_i hu
   obtain rfl:=hx.nilFunc
   obtain ⟨_,_,rfl,_⟩:=hy.funcSome
   cases h;simp [Op.equalIn,run_underlying hu]
  ·rename_i hu
   obtain ⟨_,_,rfl,_⟩:=hx.funcSome
   obtain rfl:=hy.nilFunc
   cases h;simp [Op.equalIn,run_underlying hu]
  ·rename_i fs xs ys hu
   obtain ⟨xs',rfl,hsx,h1x,hcx⟩:=hx.aggSome
   obtain ⟨ys',rfl,hsy,h1y,hcy⟩:=hy.aggSome
   split at h
   ·cases h
   ·rename_i hp
    have hf:P.fieldsOf t=fs:=by simp [Program.fieldsOf,hu]
    rw [run_equalIn_struct w d t xs' ys' (by rw [hf];exact hu) (by simpa using hp),hf]
    exact eqFields_sound hsx hsy h1x h1y hcx hcy ih _ _ h
  ·rename_i len e xs ys hu
   obtain ⟨xs',rfl,hsx,h1x,hcx⟩:=hx.aggSome
   obtain ⟨ys',rfl,hsy,h1y,hcy⟩:=hy.aggSome
   cases hz:szOf P e with
   | none=>simp [hz] at h
   | some n =>
    simp only [hz,Option.bind_some] at h
    unfold szOf at hz
    cases hi:P.info? e with
    | none=>simp [hi] at hz
    | some i =>
     have hn:P.cellsOf e=n:=by simp [hi] at hz;simp [Program.cellsOf,hi,hz]
     rw [run_equalIn_array w d xs' ys' hu hi,hn]
     exact eqElems_sound hsx hsy h1x h1y hcx hcy ih _ _ h
  ·cases h
theorem eq_shape {d:Nat} {t:TypeId} {x y:Value} {b:Bool} (h:aEq P d t x y=some b) :
  (∃ p q,x=.bool p∧y=.bool q)∨(∃ k p k' q,x=.int k p∧y=.int k' q)∨(∃ p q,x=.string p∧y=.string q)∨(∃ p q,x=.pointer p∧y=.pointer q) ∨
  (∃ p l c q l' c',x=.slice p l c∧y=.slice q l' c')∨((∃ p l c,x=.slice p l c)∧∃ k p l,l≠[]∧y=.func (.yield k) p ⟨l⟩)∨((∃ k p l,l≠[]∧x=.func (.yield k) p ⟨l⟩)∧∃ p l c,y=.slice p l c)∨(∃ p q,x=.map p∧y=.map q)∨(x=.nilFunc∧y=.nilFunc)∨(x=.nilFunc∧∃ f p q,y=.func (.func f) p q)∨((∃ f p q,x=.func (.func f) p q)∧y=.nilFunc) ∨
  (∃ p q,x=.agg p∧y=.agg q):=by
 cases d with
 | zero=>simp [aEq] at h
 | succ d =>
  unfold aEq at h
  split at h <;> first | (cases h;done) | (simp;done) | (split at h <;> first | (cases h;done) | (rename_i hne;simp at hne;simp;exact ⟨_,_,_,hne,rfl,rfl,rfl⟩) | (simp;done))
theorem VRel.slice_is {p:Option Addr} {l c:Nat} {x':Value} (hx:VRel M (.slice p l c) x'):∃ p' l1 c1,x'=.slice p' l1 c1:=by
 cases p with
 | none=>exact ⟨_,_,_,hx.sliceNone.1⟩
 | some p =>
  rcases hx.sliceSome with ⟨a,c,e,_⟩ | ⟨e,_⟩
  ·exact ⟨_,_,_,e⟩
  ·exact ⟨_,_,_,e⟩
theorem VRel.tree_is {k:Nat} {z:Array Value} {l:List Value} {x':Value} (hl:l≠[]) (hx:VRel M (.func (.yield k) z ⟨l⟩) x'):∃ p' l1 c1,x'=.slice p' l1 c1:=by
 have ht:=hx.treeSome
 cases ht with
 | lnil=>exact absurd rfl hl
 | lst=>exact ⟨_,_,_,rfl⟩
 | cptr=>exact absurd rfl hl
 | atom _ ha=>simp [Bm.atom] at ha
theorem bin_sound {op:BinOp} {t:TypeId} {xo yo:Operand} {x x' y y' v:Value} (h:aBin P op t x y=some v) (hx:VRel M x x') (hy:VRel M y y') :
  ∃ v',((do eqGuard op t xo yo x' y';binOp op t x' y'):Sem Value).run P w=.ok v' w∧VRel M v v':=by
 unfold aBin at h
 have guard0:∀ (u u':Value),(∀ a,u=.agg a→∀ a',u'≠.agg a')→(u≠.nilIface)→(eqGuard op t xo yo u u').run P w=.ok () w:=by
  intro u u' h1 h2
  unfold eqGuard
  cases op <;> simp <;> (cases u <;> cases u' <;> simp <;> first | exact absurd rfl h2 | exact absurd rfl (h1 _ rfl _))
 split at h
 ·rename_i k a k' b
  obtain rfl:=hx.int;obtain rfl:=hy.int
  have hg:=guard0 (.int k a) (.int k' b) (by simp) (by simp)
  split at h
  ·obtain ⟨h1,h2⟩:=shift_sound (w:=w) h t
   exact ⟨v,by rw [Sem.run_bind,hg];exact h1,.atom _ h2⟩
  ·obtain ⟨h1,h2⟩:=shift_sound (w:=w) h t
   exact ⟨v,by rw [Sem.run_bind,hg];exact h1,.atom _ h2⟩
  ·rename_i n1 n2
   split at h
   ·rename_i hk;subst hk
    obtain ⟨h1,h2⟩:=intOp_sound (w:=w) h n1 n2 t
    exact ⟨v,by rw [Sem.run_bind,hg];exact h1,.atom _ h2⟩
   ·cases h
 ·rename_i a b
  obtain rfl:=hx.string;obtain rfl:=hy.string
  obtain ⟨h1,h2⟩:=stringOp_sound (w:=w) h t
  exact ⟨v,by rw [Sem.run_bind,guard0 (.string a) (.string b) (by simp) (by simp)];exact h1,.atom _ h2⟩
 ·rename_i xs ys
  split at h
  ·cases h
  ·rename_i hm
   obtain ⟨xs',rfl,r1⟩:=hx.aggSome
   obtain ⟨ys',rfl,r2⟩:=hy.aggSome
   have hg:=run_eqGuard_agg (P:=P) w op t xo yo xs' ys' (by simpa using hm)
   split at h
   ·simp only [Option.map_eq_some_iff] at h
    obtain ⟨b,hb,rfl⟩:=h
    have he:=eq_sound (w:=w) _ _ _ _ _ _ _ hb hx hy
    exact ⟨_,by rw [Sem.run_bind,hg];simp only [Result.andThen_ok];rw [run_eql_struct,show (10000:Nat)=Op.maxDepth from rfl,he];rfl,.atom _ rfl⟩
   ·simp only [Option.map_eq_some_iff] at h
    obtain ⟨b,hb,rfl⟩:=h
    have he:=eq_sound (w:=w) _ _ _ _ _ _ _ hb hx hy
    exact ⟨_,by rw [Sem.run_bind,hg];simp only [Result.andThen_ok];rw [run_neq_struct,show (10000:Nat)=Op.maxDepth from rfl,he];rfl,.atom _ rfl⟩
   ·cases h
 ·cases h
 ·cases h
 ·cases h
 ·have key:∀ b,aEq P Op.maxDepth t x y=some b→(eqGuard op t xo yo x' y').run P w=.ok () w ∧
    binOp .eql t x' y'=(do pure (.bool (← Op.equal t x' y')))∧binOp .neq t x' y'=(do pure (.bool (!(← Op.equal t x' y')))):=by
   intro b hb
   rcases eq_shape hb with ⟨p,q,rfl,rfl⟩ | ⟨k,p,k',q,rfl,rfl⟩ | ⟨p,q,rfl,rfl⟩ | ⟨p,q,rfl,rfl⟩ | ⟨p,l,c,q,l',c',rfl,rfl⟩ | ⟨⟨p,l,c,rfl⟩,k,z,tl,hne,rfl⟩ | ⟨⟨k,z,tl,hne,rfl⟩,p,l,c,rfl⟩ | ⟨p,q,rfl,rfl⟩ | ⟨rfl,rfl⟩ | ⟨rfl,f,p,q,rfl⟩ | ⟨⟨f,p,q,rfl⟩,rfl⟩ | ⟨p,q,rfl,rfl⟩
   ·obtain rfl:=hx.bool;obtain rfl:=hy.bool
    exact ⟨guard0 _ _ (by simp) (by simp),rfl,rfl⟩
   ·first | contradiction | (exfalso;simp_all;done) | (exfalso;simp_all;rename_i n;first | exact n _ _ _ _ rfl rfl rfl rfl | exact n _ _ rfl rfl)
   ·first | contradiction | (exfalso;simp_all;done) | (exfalso;simp_all;rename_i n;first | exact n _ _ _ _ rfl rfl rfl rfl | exact n _ _ rfl rfl)
   ·obtain ⟨p',rfl⟩:∃ p',x'=.pointer p':=by
     cases p with
     | none=>exact ⟨_,hx.ptrNone⟩
     | some p=>obtain ⟨a,e,_⟩:=hx.ptrSome;exact ⟨_,e⟩
    obtain ⟨q',rfl⟩:∃ p',y'=.pointer p':=by
     cases q with
     | none=>exact ⟨_,hy.ptrNone⟩
     | some p=>obtain ⟨a,e,_⟩:=hy.ptrSome;exact ⟨_,e⟩
    exact ⟨guard0 _ _ (by simp) (by simp),rfl,rfl⟩
   ·obtain ⟨p',l1,c1,rfl⟩:=hx.slice_is
    obtain ⟨q',l2,c2,rfl⟩:=hy.slice_is
    exact ⟨guard0 _ _ (by simp) (by simp),rfl,rfl⟩
   ·obtain ⟨p',l1,c1,rfl⟩:=hx.slice_is
    obtain ⟨q',l2,c2,rfl⟩:=hy.tree_is hne
    exact ⟨guard0 _ _ (by simp) (by simp),rfl,rfl⟩
   ·obtain ⟨p',l1,c1,rfl⟩:=hx.tree_is hne
    obtain ⟨q',l2,c2,rfl⟩:=hy.slice_is
    exact ⟨guard0 _ _ (by simp) (by simp),rfl,rfl⟩
   ·obtain ⟨p',rfl⟩:∃ p',x'=.map p':=by
     cases p with
     | none=>exact ⟨_,hx.mapNone⟩
     | some p=>obtain ⟨a,_,_,e⟩:=hx.mapSome;exact ⟨_,e⟩
    obtain ⟨q',rfl⟩:∃ p',y'=.map p':=by
     cases q with
     | none=>exact ⟨_,hy.mapNone⟩
     | some p=>obtain ⟨a,_,_,e⟩:=hy.mapSome;exact ⟨_,e⟩
    exact ⟨guard0 _ _ (by simp) (by simp),rfl,rfl⟩
   ·obtain rfl:=hx.nilFunc;obtain rfl:=hy.nilFunc
    exact ⟨guard0 _ _ (by simp) (by simp),rfl,rfl⟩
   ·obtain rfl:=hx.nilFunc
    obtain ⟨_,_,rfl,_⟩:=hy.funcSome
    exact ⟨guard0 _ _ (by simp) (by simp),rfl,rfl⟩
   ·obtain rfl:=hy.nilFunc
    obtain ⟨_,_,rfl,_⟩:=hx.funcSome
    exact ⟨guard0 _ _ (by simp) (by simp),rfl,rfl⟩
   ·first | contradiction | (exfalso;simp_all;done) | (exfalso;simp_all;rename_i n;first | exact n _ _ _ _ rfl rfl rfl rfl | exact n _ _ rfl rfl)
  split at h
  ·simp only [Option.map_eq_some_iff] at h
   obtain ⟨b,hb,rfl⟩:=h
   obtain ⟨k1,k2,_⟩:=key b hb
   have he:=eq_sound (w:=w) _ _ _ _ _ _ _ hb hx hy
   exact ⟨_,by rw [Sem.run_bind,k1];simp only [Result.andThen_ok];rw [k2];simp [Op.equal,he],.atom _ rfl⟩
  ·simp only [Option.map_eq_some_iff] at h
   obtain ⟨b,hb,rfl⟩:=h
   obtain ⟨k1,_,k2⟩:=key b hb
   have he:=eq_sound (w:=w) _ _ _ _ _ _ _ hb hx hy
   exact ⟨_,by rw [Sem.run_bind,k1];simp only [Result.andThen_ok];rw [k2];simp [Op.equal,he],.atom _ rfl⟩
  ·cases h
theorem binO_sound {op:BinOp} {t:TypeId} {xo yo:Operand} {x x' y y' v:Value} (h:aBinO P op t yo x y=some v) (hx:VRel M x x') (hy:VRel M y y') :
  ∃ v',((do eqGuard op t xo yo x' y';binOp op t x' y'):Sem Value).run P w=.ok v' w∧VRel M v v':=by
 unfold aBinO at h
 split at h
 ·rename_i hc
  rw [Bool.and_eq_true] at hc
  obtain ⟨hl,hi⟩:=hc
  obtain rfl:yo=.const .nilIface:=by
   unfold litNil at hl
   split at hl
   ·rfl
   ·cases hl
  obtain ⟨ms,hu⟩:∃ ms,P.underlying t=some (.interface ms):=by
   unfold isIfc at hi
   split at hi
   ·exact ⟨_,by assumption⟩
   ·cases hi
  have nn:∀ u,VRel M .nilIface u→u=.nilIface:=fun u hu=>by cases hu;rfl
  have ni:∀ t0 v0 u,VRel M (.iface t0 v0) u→∃ v1,u=.iface t0 v1:=fun t0 v0 u hu=>by
   cases hu with
   | atom _ ha=>simp [Bm.atom] at ha
   | iface _ _ v1 _=>exact ⟨v1,rfl⟩
  have e1:(Op.equal t .nilIface .nilIface).run P w=.ok true w:=by
   have h:∀ d:Nat,(Op.equalIn (d+1) t .nilIface .nilIface).run P w=.ok true w:=fun d=>by simp [Op.equalIn,run_underlying hu]
   simp [Op.equal,Op.maxDepth,h 9999]
  have e2:∀ t0 v1,(Op.equal t (.iface t0 v1) .nilIface).run P w=.ok false w:=fun t0 v1=>by
   have h:∀ d:Nat,(Op.equalIn (d+1) t (.iface t0 v1) .nilIface).run P w=.ok false w:=fun d=>by simp [Op.equalIn,run_underlying hu]
   simp [Op.equal,Op.maxDepth,h 9999]
  have g1:∀ o:BinOp,(eqGuard o t xo (.const .nilIface) .nilIface .nilIface).run P w=.ok () w:=fun o=>by
   unfold eqGuard
   cases o <;> simp
  have g2:∀ (o:BinOp) t0 v1,(eqGuard o t xo (.const .nilIface) (.iface t0 v1) .nilIface).run P w=.ok () w:=fun o t0 v1=>by
   unfold eqGuard
   cases o <;> simp
  have k1:∀ a b:Value,a=.nilIface∨(∃ t0 v1,a=.iface t0 v1)→b=.nilIface→binOp .eql t a b=(do pure (.bool (← Op.equal t a b)))∧binOp .neq t a b=(do pure (.bool (!(← Op.equal t a b)))):=fun a b ha hb=>by
   subst hb
   rcases ha with rfl | ⟨t0,v1,rfl⟩ <;> exact ⟨rfl,rfl⟩
  unfold nilR at h
  split at h
  ·obtain rfl:=nn _ hx;obtain rfl:=nn _ hy
   cases h
   exact ⟨_,by rw [Sem.run_bind,g1];simp only [Result.andThen_ok];rw [(k1 _ _ (.inl rfl) rfl).1];simp [e1],.atom _ rfl⟩
  ·obtain rfl:=nn _ hx;obtain rfl:=nn _ hy
   cases h
   exact ⟨_,by rw [Sem.run_bind,g1];simp only [Result.andThen_ok];rw [(k1 _ _ (.inl rfl) rfl).2];simp [e1],.atom _ rfl⟩
  ·obtain ⟨v1,rfl⟩:=ni _ _ _ hx;obtain rfl:=nn _ hy
   cases h
   exact ⟨_,by rw [Sem.run_bind,g2];simp only [Result.andThen_ok];rw [(k1 _ _ (.inr ⟨_,_,rfl⟩) rfl).1];simp [e2],.atom _ rfl⟩
  ·obtain ⟨v1,rfl⟩:=ni _ _ _ hx;obtain rfl:=nn _ hy
   cases h
   exact ⟨_,by rw [Sem.run_bind,g2];simp only [Result.andThen_ok];rw [(k1 _ _ (.inr ⟨_,_,rfl⟩) rfl).2];simp [e2],.atom _ rfl⟩
  ·cases h
 ·exact bin_sound h hx hy
def ARel (M:Mem) (x x':Array Value):Prop:=x.size=x'.size∧(∀ (i:Nat) u,x[i]?=some u→one u=true)∧∀ (i:Nat) u u',x[i]?=some u→x'[i]?=some u'→VRel M u u'
theorem ARel.agg {x x':Array Value} (h:ARel M x x'):VRel M (.agg x) (.agg x'):=.agg x x' h.1 h.2.1 h.2.2
theorem cells_rel {v v':Value} (hv:VRel M v v') (ho:okPart v=true):ARel M v.cells v'.cells:=by
 have single:∀ u u':Value,one u=true→VRel M u u'→ARel M #[u] #[u']:=by
  intro u u' h1 hr
  refine ⟨rfl,fun i a ha=>?_,fun i a a' ha ha'=>?_⟩
  ·cases i <;> simp at ha;subst ha;exact h1
  ·cases i <;> simp at ha ha';subst ha;subst ha';exact hr
 cases hv with
 | top _=>simp [okPart] at ho
 | skip _=>simp [okPart] at ho
 | atom _ h =>
  have:v.cells=#[v]:=by unfold Bm.atom at h;split at h <;> first | rfl | cases h
  rw [this];exact single _ _ (atom_one h) (.atom _ h)
 | agg x x' hx h1 h=>exact ⟨hx,h1,h⟩
 | tuple=>simp [okPart] at ho
 | ptr a a' h=>exact single _ _ rfl (.ptr a a' h)
 | slice a a' len cap cap' hl h=>exact single _ _ rfl (.slice a a' len cap cap' hl h)
 | map r l h hg=>exact single _ _ rfl (.map r l h hg)
 | empty a k l hs h hg hk=>exact single _ _ rfl (.empty a k l hs h hg hk)
 | tree n x y v' h=>
  have:v'.cells=#[v']:=by cases h <;> first | rfl | (rename_i h;simp [Bm.atom] at h)
  rw [this];exact single _ _ rfl (.tree n x y v' h)
 | func fn x x' y y' hx hy h k=>exact single _ _ rfl (.func fn x x' y y' hx hy h k)
 | iface t v v' h=>exact single _ _ rfl (.iface t v v' h)
theorem foldl_set (off:Nat):∀ (l:List Value) (k:Nat) (cs:Array Value),
  ((l.zipIdx k).foldl (fun cs (x:Value × Nat)=>cs.setIfInBounds (off+x.2) x.1) cs).size=cs.size ∧
  ∀ i:Nat,((l.zipIdx k).foldl (fun cs (x:Value × Nat)=>cs.setIfInBounds (off+x.2) x.1) cs)[i]?=if off+k≤i∧i<off+k+l.length∧i<cs.size then l[i-(off+k)]? else cs[i]?
 | [],k,cs=>by
  refine ⟨by simp,fun i=>?_⟩
  rw [if_neg (by simp;omega)];simp
 | v :: l,k,cs=>by
  obtain ⟨h1,h2⟩:=foldl_set off l (k+1) (cs.setIfInBounds (off+k) v)
  simp only [List.zipIdx_cons,List.foldl_cons]
  refine ⟨by rw [h1];simp,fun i=>?_⟩
  rw [h2]
  by_cases e:i=off+k
  ·subst e
   rw [if_neg (by omega)]
   by_cases hlt:off+k<cs.size
   ·rw [if_pos ⟨Nat.le_refl _,by simp,hlt⟩];simp [hlt]
   ·rw [if_neg (by omega)];simp [Nat.le_of_not_lt hlt]
  ·by_cases hin:off+(k+1)≤i∧i<off+(k+1)+l.length∧i<cs.size
   ·rw [if_pos (by simpa using hin),if_pos ⟨by omega,by simp;omega,hin.2.2⟩]
    rw [show i-(off+k)=(i-(off+(k+1)))+1 by omega];simp
   ·rw [if_neg (by simpa using hin),if_neg (by simp;omega)]
    rw [Array.getElem?_setIfInBounds_ne (by omega)]
theorem fill_sound {place:Nat→Option (Nat × Nat)}:∀ (parts parts':List (Nat × Value)) (cells cells':Array Value) (r:Array Value),
  Instr.fill place cells parts=some r→parts.all (fun p=>okPart p.2)=true→parts.length=parts'.length →
  (∀ (i:Nat) p p',parts[i]?=some p→parts'[i]?=some p'→p.1=p'.1∧VRel M p.2 p'.2)→ARel M cells cells' →
  ∃ r',Instr.fill place cells' parts'=some r'∧ARel M r r'
 | [],[],cells,cells',r,h,_,_,_,hc=>by simp [Instr.fill] at h;subst h;exact ⟨cells',by simp [Instr.fill],hc⟩
 | [],_ :: _,_,_,_,_,_,hl,_,_=>by simp at hl
 | _ :: _,[],_,_,_,_,_,hl,_,_=>by simp at hl
 | (i,v) :: rest,(i',v') :: rest',cells,cells',r,h,hok,hl,hp,hc=>by
  obtain ⟨e,hv⟩:=hp 0 (i,v) (i',v') (by simp) (by simp)
  simp only at e hv
  subst e
  simp only [List.all_cons,Bool.and_eq_true] at hok
  have hcv:=cells_rel hv hok.1
  simp only [Instr.fill] at h ⊢
  cases hpl:place i with
  | none=>simp [hpl] at h
  | some os =>
   obtain ⟨off,size⟩:=os
   simp only [hpl] at h ⊢
   rw [← hcv.1,← hc.1]
   split at h
   ·cases h
   ·rename_i hcond
    rw [if_neg hcond]
    have hfit:off+v.cells.size≤cells.size:=by simp at hcond;omega
    refine fill_sound rest rest' _ _ r h hok.2 (by simpa using hl) (fun j p p' hj hj'=>hp (j+1) p p' (by simpa using hj) (by simpa using hj')) ?_
    have e1:∀ (x:Array Value) (c:Array Value),x.zipIdx.foldl (fun cs (y:Value × Nat)=>cs.setIfInBounds (off+y.2) y.1) c=(x.toList.zipIdx 0).foldl (fun cs (y:Value × Nat)=>cs.setIfInBounds (off+y.2) y.1) c:=by
     intro x c;rw [← Array.foldl_toList];simp
    obtain ⟨a1,a2⟩:=foldl_set off v.cells.toList 0 cells
    obtain ⟨b1,b2⟩:=foldl_set off v'.cells.toList 0 cells'
    rw [← e1] at a1 b1
    refine ⟨by rw [a1,b1];exact hc.1,fun j u hu=>?_,fun j u u' hu hu'=>?_⟩
    ·rw [e1,a2] at hu
     split at hu
     ·exact hcv.2.1 _ u (by simpa using hu)
     ·exact hc.2.1 j u hu
    ·rw [e1,a2] at hu
     rw [e1,b2] at hu'
     have hsz:v'.cells.toList.length=v.cells.toList.length:=by simp [hcv.1]
     rw [hsz,← hc.1] at hu'
     split at hu
     ·rename_i hin;rw [if_pos hin] at hu';exact hcv.2.2 _ u u' (by simpa using hu) (by simpa using hu')
     ·rename_i hin;rw [if_neg hin] at hu';exact hc.2.2 j u u' hu hu'
theorem flat_cells {z:Value} (h:flat z=true):ARel M z.cells z.cells:=by
 refine cells_rel (VRel.of_flat h) ?_
 unfold flat at h
 split at h
 ·rfl
 ·unfold Bm.atom at h;split at h <;> first | rfl | cases h
theorem places_sound {fs:List Field}:∀ {l:List (Nat × Nat)},(fs.mapM fun f=>(szOf P f.type).map fun n=>(f.offset,n))=some l →
  (fs.mapM (fun f=>do pure (f.offset,← sizeOf f.type)):Sem (List (Nat × Nat))).run P w=.ok l w:=by
 induction fs with
 | nil=>intro l h;simp at h;subst h;simp
 | cons f fs ih =>
  intro l h
  simp only [List.mapM_cons,bind,Option.bind_eq_some_iff,Option.map_eq_some_iff,pure,Option.some.injEq] at h
  obtain ⟨p,⟨n,hn,rfl⟩,l',hl',rfl⟩:=h
  have:=ih hl'
  simp only [List.mapM_cons,Sem.run_bind,run_size hn,Result.andThen_ok,Sem.run_pure]
  rw [this];rfl
theorem build_sound {t:TypeId} {parts parts':Array (Nat × Value)} {v:Value} (h:aBuild P t parts=some v) (hl:parts.size=parts'.size)
  (hp:∀ (i:Nat) p p',parts[i]?=some p→parts'[i]?=some p'→p.1=p'.1∧VRel M p.2 p'.2) :
  ∃ v',(Instr.build t parts').run P w=.ok v' w∧VRel M v v':=by
 unfold aBuild at h
 simp only [Option.bind_eq_some_iff] at h
 obtain ⟨z,⟨i,hi,hz⟩,h⟩:=h
 split at h
 ·cases h
 ·rename_i hok
  simp only [Bool.or_eq_true,Bool.not_eq_true',not_or,Bool.not_eq_false] at hok
  obtain ⟨hf,hok⟩:=hok
  have hzr:(zeroValue t).run P w=.ok z w:=by simp [zeroValue,typeInfo,hi,hz]
  have hp':∀ (i:Nat) p p',parts.toList[i]?=some p→parts'.toList[i]?=some p'→p.1=p'.1∧VRel M p.2 p'.2:=fun i p p' h1 h2=>hp i p p' (by simpa using h1) (by simpa using h2)
  split at h
  ·rename_i fs hu
   simp only [Option.bind_eq_some_iff,Option.map_eq_some_iff] at h
   obtain ⟨places,hpl,r,hr,rfl⟩:=h
   obtain ⟨r',hr',hrel⟩:=fill_sound _ _ _ _ r hr hok (by simpa using hl) hp' (flat_cells hf)
   have hpl2:(fs.toList.mapM fun f=>(szOf P f.type).map fun n=>(f.offset,n))=some places.toList:=by
    rw [Array.mapM_eq_mapM_toList] at hpl
    simp only [Functor.map,Option.map_eq_some_iff] at hpl
    obtain ⟨l,h1,rfl⟩:=hpl
    simpa using h1
   have hrun:=places_sound (w:=w) hpl2
   refine ⟨.agg r',?_,hrel.agg⟩
   simp only [Instr.build,Sem.run_bind,hzr,Result.andThen_ok,run_underlying hu,Array.mapM_eq_mapM_toList,Sem.run_map,hrun]
   simp [hr']
  ·rename_i n e hu
   simp only [Option.bind_eq_some_iff,Option.map_eq_some_iff] at h
   obtain ⟨s,hs,r,hr,rfl⟩:=h
   obtain ⟨r',hr',hrel⟩:=fill_sound _ _ _ _ r hr hok (by simpa using hl) hp' (flat_cells hf)
   refine ⟨.agg r',?_,hrel.agg⟩
   simp [Instr.build,hzr,run_underlying hu,run_size hs,hr']
  ·cases h
theorem minMax_sound {mx:Bool} {l l':List Value} {v:Value} (h:aMinMax mx l=some v) (hl:VRels M l l') :
  ((if mx then Builtin.max_ #[] 0 l'.toArray else Builtin.min_ #[] 0 l'.toArray):Sem Value).run P w=.ok v w∧atom v=true:=by
 cases l with
 | nil=>simp [aMinMax] at h
 | cons x rest =>
  cases x with
  | int k n =>
   cases l' with
   | nil=>exact absurd hl.1 (by simp)
   | cons x' rest' =>
    obtain rfl:=(hl.2 0 _ x' rfl rfl).int
    have hrest:VRels M rest rest':=⟨by simpa using hl.1,fun i u u' hu hu'=>hl.2 (i+1) u u' (by simpa using hu) (by simpa using hu')⟩
    simp only [aMinMax] at h
    clear hl
    suffices H:((if mx then rest'.foldlM Builtin.max2 (.int k n) else rest'.foldlM Builtin.min2 (.int k n)):Sem Value).run P w=.ok v w∧atom v=true by
     cases mx <;> simpa [Builtin.max_,Builtin.min_] using H
    induction rest generalizing rest' n with
    | nil =>
     cases rest' with
     | nil=>simp at h;subst h;cases mx <;> exact ⟨by simp,rfl⟩
     | cons _ _=>exact absurd hrest.1 (by simp)
    | cons y rest ih =>
     cases rest' with
     | nil=>exact absurd hrest.1 (by simp)
     | cons y' rest' =>
      have hr2:VRels M rest rest':=⟨by simpa using hrest.1,fun i u u' hu hu'=>hrest.2 (i+1) u u' (by simpa using hu) (by simpa using hu')⟩
      simp only [List.foldlM_cons,bind,Option.bind_eq_some_iff] at h
      obtain ⟨a,ha,h⟩:=h
      cases y with
      | int k' m =>
       obtain rfl:=(hrest.2 0 _ y' rfl rfl).int
       simp only [Option.some.injEq] at ha
       subst ha
       have:=ih _ h rest' hr2
       cases mx <;> simpa [List.foldlM_cons,Builtin.max2,Builtin.min2] using this
      | _=>simp at ha
  | _=>simp [aMinMax] at h
end
end Go.Proofs.YtplebjehcgcdeaaGreatDoor.Bm
