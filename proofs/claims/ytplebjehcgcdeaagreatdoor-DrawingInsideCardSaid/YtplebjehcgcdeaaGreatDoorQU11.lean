/-
 A region whose order is drawn: the invariant of a run in whatever order, and the theorem. Conditions: what is called is sound; the region passes a test on its text ('okDraw').
-/
import Derived.Test.YtplebjehcgcdeaaGreatDoorQU10
namespace Go.Proofs.YtplebjehcgcdeaaGreatDoor.Bm
open Go Go.RowKit
section
variable {E:Env} {sl:Bool} {B:Nat} {C:Callee} {lo:Nat} {cm:Option (Nat × Nat)} {ops:Array Oper} {S:Nat→Slots} {H:Nat→Heap} {V:Nat→Value} {G:Nat→Bool}
theorem okDraw_edge (ho:okDraw ops=true) {q:Nat} {o:Oper} (hq:ops[q]?=some o) {e:Edge} (he:e∈o.after) (hb:Region.binds .any e=true):e.on<q:=by
 unfold okDraw at ho
 simp only [Bool.and_eq_true,List.all_eq_true] at ho
 have:=ho.1 (o,q) (by rw [List.mem_iff_getElem?];exact ⟨q,by simp [List.getElem?_zipIdx,hq]⟩) e (Array.mem_toList_iff.2 he)
 simpa [hb] using this
theorem okDraw_apart (ho:okDraw ops=true) {p q:Nat} {x y:Oper} (hpq:p<q) (hp:ops[p]?=some x) (hq:ops[q]?=some y):x.apart ops y=true∨((Region.before ops).getD q 0).testBit p=true:=by
 unfold okDraw at ho
 simp only [Bool.and_eq_true,List.all_eq_true] at ho
 have:=ho.2 (y,q) (by rw [List.mem_iff_getElem?];exact ⟨q,by simp [List.getElem?_zipIdx,hq]⟩) (x,p) (by
  rw [List.mem_iff_getElem?]
  refine ⟨p,?_⟩
  rw [List.getElem?_take,if_pos hpq]
  simp [List.getElem?_zipIdx,hp])
 simpa using this
def nq (E:Env) (sl:Bool) (ops:Array Oper) (G:Nat→Bool) (k:Nat):Prop:=G k=true∧∃ o,ops[k]?=some o∧clsOf E o.op=.write∧strictAt E sl ops (Region.before ops) k o=false
theorem nq_ordered {k j:Nat} {p:Oper} (hk:nq E sl ops G k) (hj:ops[j]?=some p) (hp:quietAt E sl ops (Region.before ops) j p=false) (hne:j≠k):(k<j→((Region.before ops).getD j 0).testBit k=true)∧(j<k→((Region.before ops).getD k 0).testBit j=true):=by
 obtain ⟨_,o,ho,hw,hs⟩:=hk
 unfold strictAt at hs
 have hs:=(Bool.or_eq_false_iff.1 hs).2
 rw [hw] at hs
 simp only [beq_self_eq_true,Bool.true_and,Bool.not_eq_false',List.all_eq_true,Bool.or_eq_true,beq_iff_eq] at hs
 have hlt:j<ops.size:=(Array.getElem?_eq_some_iff.1 hj).1
 have h1:=hs j (List.mem_range.2 hlt)
 rcases h1 with (h1 | h1) | h1
 ·exact absurd h1 hne
 ·rw [hj] at h1
  simp only [Option.all_some] at h1
  rw [hp] at h1;cases h1
 ·unfold orderedIn at h1
  constructor
  ·intro h;rwa [Nat.max_eq_right (by omega),Nat.min_eq_left (by omega)] at h1
  ·intro h;rwa [Nat.max_eq_left (by omega),Nat.min_eq_right (by omega)] at h1
variable (T:∀ j o,ops[j]?=some o→Tr E sl C lo cm ops S H V G j o) (hK:KeepC C) (hlo:lo≤(H 0).length)
include T hK hlo
theorem keep_all:∀ k,k≤ops.size→Keep lo (H 0) (H k):=by
 intro k
 induction k with
 | zero=>intro _;exact .refl _ _
 | succ k ih =>
  intro hk
  have k1:=ih (by omega)
  have hlt:k<ops.size:=by omega
  have t:=T k ops[k] (by simp [hlt])
  have hlo':=Nat.le_trans hlo k1.1
  cases hg:G k with
  | false=>obtain ⟨_,e⟩:=t.skip hg;rw [e];exact k1
  | true=>exact k1.trans ((aop_keep hK hlo' (t.run hg) (evalA_func E _)).weaken (by unfold loOf;split <;> omega))
theorem keep_step {k:Nat} (hk:k<ops.size):Keep lo (H k) (H (k+1)):=by
 have t:=T k ops[k] (by simp [hk])
 have hlo':=Nat.le_trans hlo (keep_all T hK hlo k (by omega)).1
 cases hg:G k with
 | false=>obtain ⟨_,e⟩:=t.skip hg;rw [e];exact .refl _ _
 | true=>exact (aop_keep hK hlo' (t.run hg) (evalA_func E _)).weaken (by unfold loOf;split <;> omega)
theorem keep_quiet {k:Nat} (hk:k<ops.size) (hn:¬ nq E sl ops G k):Keep (H k).length (H k) (H (k+1)):=by
 have t:=T k ops[k] (by simp [hk])
 have hlo':=Nat.le_trans hlo (keep_all T hK hlo k (by omega)).1
 cases hg:G k with
 | false=>obtain ⟨_,e⟩:=t.skip hg;rw [e];exact .refl _ _
 | true =>
  have:=aop_keep hK hlo' (t.run hg) (evalA_func E _)
  have e:loOf E (strictAt E sl ops (Region.before ops) k ops[k] && !calmQ cm (H k) ops[k].op (evalA E (S k))) ops[k].op lo (H k)=(H k).length:=by
   unfold loOf
   rw [if_pos]
   by_cases hw:clsOf E ops[k].op=.write
   ·rw [calm_none hw]
    cases hs:strictAt E sl ops (Region.before ops) k ops[k] with
    | true=>rfl
    | false=>exact absurd ⟨hg,ops[k],by simp [hk],hw,hs⟩ hn
   ·simp [hw]
  rw [e] at this
  exact this
theorem len_mono {i j:Nat} (hij:i≤j) (hj:j≤ops.size):(H i).length≤(H j).length:=by
 induction j with
 | zero => have : i = 0 := by omega
           subst this;exact Nat.le_refl _
 | succ j ih =>
  by_cases e:i=j+1
  ·subst e;exact Nat.le_refl _
  ·exact Nat.le_trans (ih (by omega) (by omega)) (keep_step T hK hlo (by omega)).1
theorem keep_range {i j:Nat} (hij:i≤j) (hj:j≤ops.size) (hn:∀ k,i≤k→k<j→¬ nq E sl ops G k):Keep (H i).length (H i) (H j):=by
 induction j with
 | zero => have : i = 0 := by omega
           subst this;exact .refl _ _
 | succ j ih =>
  by_cases e:i=j+1
  ·subst e;exact .refl _ _
  ·have k1:=ih (by omega) (by omega) fun k h1 h2=>hn k h1 (by omega)
   exact k1.trans ((keep_quiet T hK hlo (by omega) (hn j (by omega) (by omega))).weaken k1.1)
omit hK hlo in
theorem slotval:∀ m,m≤ops.size→(S m).length=(S 0).length∧∀ t v,(S m)[t]?=some v →
  (∃ k,k<m∧dstOf ops k=some t∧(∀ j,j<m→dstOf ops j=some t→j≤k)∧v=V k)∨((∀ j,j<m→dstOf ops j≠some t)∧(S 0)[t]?=some v):=by
 intro m
 induction m with
 | zero=>intro _;exact ⟨rfl,fun t v hv=>.inr ⟨fun j hj=>by omega,hv⟩⟩
 | succ m ih =>
  intro hm
  obtain ⟨hl,hs⟩:=ih (by omega)
  have hlt:m<ops.size:=by omega
  have h0:ops[m]?=some ops[m]:=by simp [hlt]
  have t:=T m ops[m] h0
  have hd:dstOf ops m=ops[m].dst:=by simp [dstOf,h0]
  rw [t.slot]
  cases hdst:ops[m].dst with
  | none =>
   simp only [putA]
   refine ⟨hl,fun x v hv=>?_⟩
   rcases hs x v hv with ⟨k,h1,h2,h3,h4⟩ | ⟨h1,h2⟩
   ·exact .inl ⟨k,by omega,h2,fun j hj hjd=>by
     by_cases e:j=m
     ·subst e;rw [hd,hdst] at hjd;cases hjd
     ·exact h3 j (by omega) hjd,h4⟩
   ·exact .inr ⟨fun j hj=>by
     by_cases e:j=m
     ·subst e;rw [hd,hdst];simp
     ·exact h1 j (by omega),h2⟩
  | some d =>
   simp only [putA]
   refine ⟨by simp [hl],fun x v hv=>?_⟩
   by_cases e:d=x
   ·subst e
    have hdl:d<(S m).length:=by
     have:=(List.getElem?_eq_some_iff.1 hv).1;simpa using this
    rw [List.getElem?_set_self hdl] at hv
    cases hv
    exact .inl ⟨m,by omega,by rw [hd,hdst],fun j hj _=>by omega,rfl⟩
   ·rw [List.getElem?_set_ne e] at hv
    rcases hs x v hv with ⟨k,h1,h2,h3,h4⟩ | ⟨h1,h2⟩
    ·exact .inl ⟨k,by omega,h2,fun j hj hjd=>by
      by_cases e':j=m
      ·subst e';rw [hd,hdst] at hjd;cases hjd;exact absurd rfl e
      ·exact h3 j (by omega) hjd,h4⟩
    ·exact .inr ⟨fun j hj=>by
      by_cases e':j=m
      ·subst e';rw [hd,hdst];intro h;cases h;exact e rfl
      ·exact h1 j (by omega),h2⟩
end
def Ex (ops:Array Oper) (listed:Array Bool) (k:Nat):Prop:=k<ops.size∧listed.getD k false=true
structure Inv (E:Env) (sl:Bool) (B lo:Nat) (ops:Array Oper) (S:Nat→Slots) (H:Nat→Heap) (V:Nat→Value) (G:Nat→Bool) (M₀:Mem) (w₀:World) (listed:Array Bool) (M:Mem) (a:Act) (w:World):Prop where
 lsize:listed.size=ops.size
 closed:∀ q o,ops[q]?=some o→listed.getD q false=true→∀ e∈o.after,Region.binds .any e=true→listed.getD e.on false=true
 defers:a.defers=[]
 tsize:(S 0).length=a.tmps.size
 slotW:∀ t k v',a.tmps[t]?=some v'→Ex ops listed k→dstOf ops k=some t→(∀ j,Ex ops listed j→dstOf ops j=some t→j≤k)→VRel (M.cut (H (k+1)).length) (V k) v'
 slot0:∀ t v v',a.tmps[t]?=some v'→(S 0)[t]?=some v→(∀ k,Ex ops listed k→dstOf ops k≠some t)→VRel (M.cut (H 0).length) v v'
 view:∀ i,i≤ops.size→(∀ e,e<i→nq E sl ops G e→Ex ops listed e)→(∀ e,Ex ops listed e→nq E sl ops G e→e<i)→HSim E B (M.cut (H i).length) (H i) w∧Evo E lo M₀ (H 0) w₀ (M.cut (H i).length) (H i) w
 dom:∀ o l,M.obj o=some l→o<(H 0).length∨∃ k,Ex ops listed k∧(H k).length≤o∧o<(H (k+1)).length
 cells:∀ b o v,M.phi b o=some v→w.cell? ⟨b,o,none⟩=some v
section
variable {E:Env} {sl:Bool} {B:Nat} {C:Callee} {lo:Nat} {cm:Option (Nat × Nat)} {ops:Array Oper} {S:Nat→Slots} {H:Nat→Heap} {V:Nat→Value} {G:Nat→Bool}
 {M₀ M:Mem} {w₀ w:World} {listed:Array Bool} {a:Act}
theorem ex_before (hok:okDraw ops=true) (I:Inv E sl B lo ops S H V G M₀ w₀ listed M a w):∀ q p,Ex ops listed q→((Region.before ops).getD q 0).testBit p=true→Ex ops listed p:=by
 intro q
 induction q using Nat.strongRecOn with
 | _ q ih =>
  intro p hq hb
  obtain ⟨o,ho,e,he,hbe,hor⟩:=before_bit ops hb
  have hlt:=okDraw_edge hok ho he hbe
  have hex:Ex ops listed e.on:=⟨Nat.lt_trans hlt hq.1,I.closed q o ho hq.2 e he hbe⟩
  rcases hor with rfl | h
  ·exact hex
  ·exact ih e.on hlt p hex h
theorem ready_before (hok:okDraw ops=true) (I:Inv E sl B lo ops S H V G M₀ w₀ listed M a w) {i:Nat} {o:Oper} (ho:ops[i]?=some o) (hall:∀ e∈o.after,Region.binds .any e=true→listed.getD e.on false=true) {p:Nat}
  (hb:((Region.before ops).getD i 0).testBit p=true):Ex ops listed p:=by
 obtain ⟨o',ho',e,he,hbe,hor⟩:=before_bit ops hb
 rw [ho] at ho';cases ho'
 have hlt:=okDraw_edge hok ho he hbe
 have hex:Ex ops listed e.on:=⟨Nat.lt_trans hlt (Array.getElem?_eq_some_iff.1 ho).1,hall e he hbe⟩
 rcases hor with rfl | h
 ·exact hex
 ·exact ex_before hok I _ _ hex h
theorem not_ex {i:Nat} (hu:listed.getD i true=false):¬ Ex ops listed i:=by
 rintro ⟨_,h⟩
 by_cases hlt:i<listed.size
 ·simp [hlt] at hu h;rw [hu] at h;cases h
 ·simp [Array.getElem?_eq_none (Nat.le_of_not_lt hlt)] at hu
theorem ex_set (I:Inv E sl B lo ops S H V G M₀ w₀ listed M a w) {i:Nat} (hi:i<ops.size) {k:Nat}:Ex ops (listed.setIfInBounds i true) k↔k=i∨Ex ops listed k:=by
 have hls:=I.lsize
 unfold Ex
 by_cases e:k=i
 ·subst e;simp [hi,hls]
 ·simp [e,getD_set_ne false (Ne.symm e)]
theorem looks_rel (hok:okDraw ops=true) (T:∀ j o,ops[j]?=some o→Tr E sl C lo cm ops S H V G j o) (hK:KeepC C) (hlo:lo≤(H 0).length) (I:Inv E sl B lo ops S H V G M₀ w₀ listed M a w) {i:Nat} {o:Oper} (ho:ops[i]?=some o)
  (hu:listed.getD i true=false) (hall:∀ e∈o.after,Region.binds .any e=true→listed.getD e.on false=true) {t:Tmp} (ht:t∈o.looksAt ops) {v v':Value} (hv:(S i)[t]?=some v) (hv':a.tmps[t]?=some v') :
  VRel (M.cut (H i).length) v v':=by
 have hi:i<ops.size:=(Array.getElem?_eq_some_iff.1 ho).1
 have late:∀ j,Ex ops listed j→dstOf ops j=some t→j<i:=by
  intro j hj hd
  rcases Nat.lt_trichotomy j i with h | h | h
  ·exact h
  ·subst h;exact absurd hj (not_ex hu)
  ·obtain ⟨y,hy⟩:∃ y,ops[j]?=some y:=⟨ops[j]'hj.1,by simp [hj.1]⟩
   have hyd:y.dst=some t:=by simpa [dstOf,hy] using hd
   rcases okDraw_apart hok h ho hy with h1 | h1
   ·exact absurd ht ((Oper.apart_spec h1).2.2 t hyd)
   ·exact absurd (ex_before hok I _ _ hj h1) (not_ex hu)
 rcases (slotval T i (by omega)).2 t v hv with ⟨k,h1,h2,h3,rfl⟩ | ⟨h1,h2⟩
 ·obtain ⟨x,hx⟩:∃ x,ops[k]?=some x:=⟨ops[k],by simp⟩
  have hxd:x.dst=some t:=by simpa [dstOf,hx] using h2
  have hex:Ex ops listed k:=by
   rcases okDraw_apart hok h1 hx ho with h4 | h4
   ·exact absurd ht ((Oper.apart_spec h4).1 t hxd)
   ·exact ready_before hok I ho hall h4
  exact (I.slotW t k v' hv' hex h2 fun j hj hd=>h3 j (late j hj hd) hd).mono (cut_le (len_mono T hK hlo (by omega) (by omega)))
 ·exact (I.slot0 t v v' hv' h2 fun k hk hd=>h1 k (late k hk hd) hd).mono (cut_le (len_mono T hK hlo (by omega) (by omega)))
theorem guard_rel' {σ:Slots} {a:Act} {o:Oper} (hsz:σ.length=a.tmps.size) (h:∀ t∈o.looksAt ops,∀ v v',σ[t]?=some v→a.tmps[t]?=some v'→VRel M v v') {b:Bool} (hb:guardA ops σ o=some b) :
  Region.wanted o (yielded ops a.tmps)=b:=by
 unfold guardA at hb
 unfold Region.wanted
 cases hg:o.guard with
 | none=>simp only [hg,Option.some.injEq] at hb ⊢; exact hb
 | some jw =>
  obtain ⟨j,want⟩:=jw
  simp only [hg] at hb ⊢
  split at hb
  ·rename_i c hc
   cases hb
   simp only [Option.bind_eq_some_iff] at hc
   obtain ⟨d,hd,hdv⟩:=hc
   have hlt:d<a.tmps.size:=hsz ▸ (List.getElem?_eq_some_iff.1 hdv).1
   obtain ⟨p,hp,hpd⟩:=hd
   have:=h d (by simp [Oper.looksAt,hg,hp,hpd]) _ a.tmps[d] hdv (by simp [hlt])
   have e:=this.bool
   have e2:yielded ops a.tmps j=some c:=by
    unfold yielded
    simp [hp,hpd,hlt,e]
   rw [e2]
   cases c <;> cases want <;> rfl
  ·rename_i n hc
   cases hb
   simp only [Option.bind_eq_some_iff] at hc
   obtain ⟨d,hd,hdv⟩:=hc
   have hlt:d<a.tmps.size:=hsz ▸ (List.getElem?_eq_some_iff.1 hdv).1
   obtain ⟨p,hp,hpd⟩:=hd
   have:=h d (by simp [Oper.looksAt,hg,hp,hpd]) _ a.tmps[d] hdv (by simp [hlt])
   have e:a.tmps[d]=.tuple #[]:=by
    generalize a.tmps[d]=u at this
    cases this with
    | skip=>rfl
    | atom _ h=>simp [Bm.atom] at h
   have e2:yielded ops a.tmps j=none:=by
    unfold yielded
    simp [hp,hpd,hlt,e]
   rw [e2]
   rfl
  ·cases hb
theorem opnd_rel {σ:Slots} {a:Act} {o:Oper} (hg:∀ g v,E.glob g=some v→VRel M (cptr v) (.pointer (some ⟨g,0,none⟩))) (hsz:σ.length=a.tmps.size) (h:∀ t∈o.looksAt ops,∀ v v',σ[t]?=some v→a.tmps[t]?=some v'→VRel M v v') :
  ∀ x∈o.op.operands,VRel M (evalA E σ x) (a.eval x):=by
 intro x hx
 cases x with
 | tmp t =>
  have ht:t∈o.looksAt ops:=by
   simp only [Oper.looksAt,List.mem_append,List.mem_filterMap]
   exact .inl ⟨.tmp t,Array.mem_toList_iff.2 hx,rfl⟩
  show VRel M (σ.getD t undef) (a.tmps.getD t undef)
  by_cases hi:t<σ.length
  ·have hi':t<a.tmps.size:=hsz ▸ hi
   have e1:σ.getD t undef=σ[t]:=by simp [hi]
   have e2:a.tmps.getD t undef=a.tmps[t]:=by simp [hi']
   rw [e1,e2]
   exact h t ht _ _ (by simp [hi]) (by simp [hi'])
  ·rw [show σ.getD t undef=undef by simp [List.getElem?_eq_none (Nat.le_of_not_lt hi)]]
   exact .top _
 | const v =>
  show VRel M (if flat v then v else undef) v
  split
  ·exact VRel.of_flat ‹_›
  ·exact .top _
 | global g =>
  show VRel M (match E.glob g with | some v=>cptr v | none=>undef) _
  split
  ·rename_i v hv
   exact hg g v hv
  ·exact .top _
 | func f=>exact .func _ _ _ _ _ rfl rfl (fun i u u' hu=>by simp at hu) fun i u u' hu=>by simp at hu
theorem cut_cut_le {M M':Mem} {n:Nat} (h:∀ o l,o<n→M.obj o=some l→∃ l',M'.obj o=some l'∧Grew l l') (hp:∀ b x v,M.phi b x=some v→M'.phi b x=some v):(M.cut n).Le (M'.cut n) :=
 ⟨fun o l hl=>by
  obtain ⟨h1,h2⟩:=cut_some hl
  obtain ⟨l',h3,h4⟩:=h o l h1 h2
  exact ⟨l',cut_of h1 h3,h4⟩,hp⟩
theorem Inv.more (_T:∀ j o,ops[j]?=some o→Tr E sl C lo cm ops S H V G j o) (hok:okDraw ops=true) (I:Inv E sl B lo ops S H V G M₀ w₀ listed M a w) {i:Nat} {o:Oper} (ho:ops[i]?=some o)
  (hu:listed.getD i true=false) (hall:∀ e∈o.after,Region.binds .any e=true→listed.getD e.on false=true) {M':Mem} {w₁:World} {v':Value}
  (hv:VRel (M'.cut (H (i+1)).length) (V i) v') (hcells:∀ b o v,M'.phi b o=some v→w₁.cell? ⟨b,o,none⟩=some v) (hle:∀ n,(M.cut n).Le (M'.cut n)) (hdom:∀ o l,M'.obj o=some l→(∃ l₀,M.obj o=some l₀)∨((H i).length≤o∧o<(H (i+1)).length))
  (hview:∀ j,j≤ops.size→(∀ e,e<j→nq E sl ops G e→e=i∨Ex ops listed e)→(∀ e,(e=i∨Ex ops listed e)→nq E sl ops G e→e<j)→HSim E B (M'.cut (H j).length) (H j) w₁∧Evo E lo M₀ (H 0) w₀ (M'.cut (H j).length) (H j) w₁) :
  Inv E sl B lo ops S H V G M₀ w₀ (listed.setIfInBounds i true) M' (a.put o.dst v') w₁:=by
 have hi:i<ops.size:=(Array.getElem?_eq_some_iff.1 ho).1
 have hx:∀ {k},Ex ops (listed.setIfInBounds i true) k↔k=i∨Ex ops listed k:=fun {k}=>ex_set I hi
 have hdst:dstOf ops i=o.dst:=by simp [dstOf,ho]
 -- a slot of this operation is nobody's behind it
 have last:∀ t,o.dst=some t→∀ j,Ex ops listed j→dstOf ops j=some t→j<i:=by
  intro t ht j hj hd
  rcases Nat.lt_trichotomy j i with h | h | h
  ·exact h
  ·subst h;exact absurd hj (not_ex hu)
  ·obtain ⟨y,hy⟩:∃ y,ops[j]?=some y:=⟨ops[j]'hj.1,by simp [hj.1]⟩
   have hyd:y.dst=some t:=by simpa [dstOf,hy] using hd
   rcases okDraw_apart hok h ho hy with h1 | h1
   ·exact absurd hyd ((Oper.apart_spec h1).2.1 t ht)
   ·exact absurd (ex_before hok I _ _ hj h1) (not_ex hu)
 constructor
 ·simp [I.lsize]
 ·intro q oq hq hlq e he hb
  by_cases hqi:q=i
  ·subst hqi;rw [ho] at hq;cases hq
   exact getD_set_true (hall e he hb)
  ·rw [getD_set_ne false (Ne.symm hqi)] at hlq
   exact getD_set_true (I.closed q oq hq hlq e he hb)
 ·rw [Act.put_defers'];exact I.defers
 ·rw [I.tsize];cases o.dst <;> simp [Act.put]
 ·intro t k u' ht hk hd hmax
  by_cases hto:o.dst=some t
  ·have hki:k=i:=by
    rcases hx.1 hk with h | h
    ·exact h
    ·have h1:=last t hto k h hd
     have h2:=hmax i (hx.2 (.inl rfl)) (by rw [hdst];exact hto)
     omega
   subst hki
   have hlt:t<a.tmps.size:=by
    have:=(Array.getElem?_eq_some_iff.1 ht).1
    simpa [hto,Act.put] using this
   simp only [hto,Act.put] at ht
   rw [Array.getElem?_setIfInBounds_self_of_lt hlt] at ht
   cases ht
   exact hv
  ·have hki:k≠i:=by intro e;subst e;rw [hdst] at hd;exact hto hd
   have hk':Ex ops listed k:=(hx.1 hk).resolve_left hki
   have ht':a.tmps[t]?=some u':=by
    cases hod:o.dst with
    | none=>simpa [hod,Act.put] using ht
    | some d=>simp only [hod,Act.put] at ht;rwa [Array.getElem?_setIfInBounds_ne (by rintro rfl;exact hto hod)] at ht
   exact (I.slotW t k u' ht' hk' hd fun j hj hjd=>hmax j (hx.2 (.inr hj)) hjd).mono (hle _)
 ·intro t v u' ht hv0 hno
  have hto:o.dst≠some t:=by intro h;exact hno i (hx.2 (.inl rfl)) (by rw [hdst];exact h)
  have ht':a.tmps[t]?=some u':=by
   cases hod:o.dst with
   | none=>simpa [hod,Act.put] using ht
   | some d=>simp only [hod,Act.put] at ht;rwa [Array.getElem?_setIfInBounds_ne (by rintro rfl;exact hto hod)] at ht
  exact (I.slot0 t v u' ht' hv0 fun k hk=>hno k (hx.2 (.inr hk))).mono (hle _)
 ·intro j hj h1 h2
  exact hview j hj (fun e he hn=>hx.1 (h1 e he hn)) fun e he hn=>h2 e (hx.2 he) hn
 ·intro o' l hl
  rcases hdom o' l hl with ⟨l₀,hl₀⟩ | hin
  ·exact (I.dom o' l₀ hl₀).imp id fun ⟨k,h1,h2⟩=>⟨k,hx.2 (.inr h1),h2⟩
  ·exact .inr ⟨i,hx.2 (.inl rfl),hin.1,hin.2⟩
 ·exact hcells
theorem HSim.pad {h ex:Heap} (hs:HSim E B M h w):HSim E B M (h++ex) w:=by
 have hget:∀ o' l,M.obj o'=some l→(h++ex)[o']?=h[o']?:=fun o' l hl=>List.getElem?_append_left (hs.lt o' l hl)
 have hal:∀ {o' l},M.obj o'=some l→alive (h++ex) o'→alive h o':=fun {o' l} hl ⟨x,hx,hx'⟩=>⟨x,by rw [← hget o' l hl];exact hx,hx'⟩
 refine ⟨hs.glob,hs.phi,fun o l hl ha hr x=>hs.sep o l hl (hal hl ha) hr x,hs.base,fun o' l hl=>?_,fun o' l t c g hl hob=>?_,fun o' l es ck hl hob=>?_,fun o₁ o₂ l₁ l₂ h2 h3 h4 h5=>hs.inj o₁ o₂ l₁ l₂ h2 h3 (hal h2 h4) (hal h3 h5),hs.gany,hs.tabs⟩
 ·obtain ⟨h1,h2⟩:=hs.dom o' l hl
  exact ⟨by simp;omega,h2⟩
 ·exact hs.obj o' l t c g hl (by rw [← hget o' l hl];exact hob)
 ·exact hs.mp o' l es ck hl (by rw [← hget o' l hl];exact hob)
theorem Evo.pad {M':Mem} {h h' ex:Heap} {w':World} (ev:Evo E lo M h w M' h' w') (hlt:∀ o l,M'.obj o=some l→o<h'.length) (hlo:lo≤h.length):Evo E lo M h w M' (h'++ex) w':=by
 have hal:∀ {o'},o'<h'.length→alive (h'++ex) o'→alive h' o':=fun {o'} hl ⟨x,hx,hx'⟩=>⟨x,by rw [List.getElem?_append_left hl] at hx;exact hx,hx'⟩
 refine ⟨ev.os,ev.tape,ev.output,ev.drawn,ev.size,ev.block,Nat.le_trans ev.len (by simp),fun o ho=>?_,fun o ho ha=>ev.dead o ho (hal (Nat.lt_of_lt_of_le ho ev.len) ha),ev.ext,ev.le,ev.non,fun o l ho hl ha hr=>ev.own o l ho hl (hal (hlt o l hl) ha) hr,ev.fro⟩
 have:=ev.len
 rw [List.getElem?_append_left (by omega)];exact ev.keep o ho
theorem Inv.place (hok:okDraw ops=true) (I:Inv E sl B lo ops S H V G M₀ w₀ listed M a w) :
  ∃ j,j≤ops.size∧(∀ e,e<j→nq E sl ops G e→Ex ops listed e)∧∀ e,Ex ops listed e→nq E sl ops G e→e<j:=by
 have key:∀ n,n≤ops.size→(∀ e,Ex ops listed e→nq E sl ops G e→e<n)→∃ j,j≤ops.size∧(∀ e,e<j→nq E sl ops G e→Ex ops listed e)∧∀ e,Ex ops listed e→nq E sl ops G e→e<j:=by
  intro n
  induction n with
  | zero=>intro _ h;exact ⟨0,by omega,fun e he=>absurd he (Nat.not_lt_zero _),h⟩
  | succ n ih =>
   intro hn h
   by_cases hc:Ex ops listed n∧nq E sl ops G n
   ·refine ⟨n+1,hn,fun e he hq=>?_,h⟩
    by_cases en:e=n
    ·subst en;exact hc.1
    ·obtain ⟨_,o,ho,hcw,hst⟩:=hc.2
     have hquiet:quietAt E sl ops (Region.before ops) n o=false:=by
      unfold strictAt at hst
      unfold quietAt
      rw [(Bool.or_eq_false_iff.1 hst).1,hcw];rfl
     exact ex_before hok I n e hc.1 ((nq_ordered hq ho hquiet (Ne.symm en)).1 (by omega))
   ·exact ih (by omega) fun e he hq=>by
     have h1:=h e he hq
     by_cases en:e=n
     ·subst en;exact absurd ⟨he,hq⟩ hc
     ·omega
 exact key ops.size (Nat.le_refl _) fun e he _=>he.1
theorem load_below {P:Program} {h:Heap} {t:TypeId} {ad:Addr} {v:Value} {n:Nat} (hb:aLoad P h t (.pointer (some ad))=some v) (hc:(h[ad.block]?).any (belowO n)=true):∃ d,below d n v=true:=by
 have hrd:∀ k cs,rdN h ad k=some cs→cs.all (below depth n)=true:=by
  intro k cs hcs
  unfold rdN rowOf at hcs
  cases hob:h[ad.block]? with
  | none=>rw [hob] at hcs;cases hcs
  | some x =>
   rw [hob] at hcs hc
   cases x with
   | cells t c g =>
    simp only at hcs
    split at hcs
    ·simp only [Option.bind_some] at hcs
     split at hcs
     ·cases hcs
      have hc:c.all (below depth n)=true:=hc
      rw [List.all_eq_true] at hc ⊢
      exact fun x hx=>hc x (List.mem_of_mem_drop (List.mem_of_mem_take hx))
     ·cases hcs
    ·cases hcs
   | _=>cases hcs
 have hb:ofCells P t (rdN h ad)=some v:=hb
 unfold ofCells at hb
 split at hb
 ·simp only [Option.bind_eq_some_iff,Option.map_eq_some_iff] at hb
  obtain ⟨k,_,cs,h1,rfl⟩:=hb
  exact ⟨depth+1,hrd _ _ h1⟩
 ·simp only [Option.bind_eq_some_iff] at hb
  obtain ⟨cs,h1,h2⟩:=hb
  exact ⟨depth,List.all_eq_true.1 (hrd _ _ h1) v (List.mem_of_getElem? h2)⟩
 ·cases hb
theorem cut_two {n k m:Nat} (h:n≤m):((M.cut k).cut n).Le (M.cut m) :=
 ⟨fun o l hl=>by
  obtain ⟨h1,h2⟩:=cut_some hl
  obtain ⟨_,h3⟩:=cut_some h2
  exact ⟨l,cut_of (by omega) h3,.refl l⟩,fun _ _ _ h=>h⟩
theorem Inv.low (T:∀ j o,ops[j]?=some o→Tr E sl C lo cm ops S H V G j o) (hK:KeepC C) (hok:okDraw ops=true) (hlo:lo≤(H 0).length) (I:Inv E sl B lo ops S H V G M₀ w₀ listed M a w) {i:Nat} (hi:i<ops.size)
  (t:TypeId) (x x' v:Value) (hl:isLow lo (H i) x=true) (hb:aLoad E.P (H i) t x=some v) (hx:VRel (M.cut (H i).length) x x'):∃ v',(Instr.loadAt t x').run E.P w=.ok v' w∧VRel (M.cut (H i).length) v v':=by
 obtain ⟨j,hj,c1,c2⟩:=I.place hok
 have hs:=(I.view j hj c1 c2).1
 unfold isLow at hl
 split at hl
 case h_2=>cases hl
 rename_i ad
 obtain ⟨hl1,hl2⟩:=Bool.and_eq_true_iff.1 hl
 have hl1:ad.block<lo:=by simpa using hl1
 have e:(H j)[ad.block]?=(H i)[ad.block]?:=((keep_all T hK hlo j hj).2.1 _ hl1).trans ((keep_all T hK hlo i (by omega)).2.1 _ hl1).symm
 have li:lo≤(H i).length:=Nat.le_trans hlo (len_mono T hK hlo (by omega) (by omega))
 have lj:lo≤(H j).length:=Nat.le_trans hlo (len_mono T hK hlo (by omega) hj)
 have hb':aLoad E.P (H j) t (.pointer (some ad))=some v:=by
  rw [← hb]
  show ofCells E.P t (rdN (H j) ad)=ofCells E.P t (rdN (H i) ad)
  unfold rdN rowOf
  rw [e]
 have hx':VRel (M.cut (H j).length) (.pointer (some ad)) x':=(VRel.cutTo hx (n:=lo) (d:=1) (by simpa [below] using hl1)).mono (cut_two lj)
 obtain ⟨v',h1,h2⟩:=load_sound hs hb' hx'
 obtain ⟨d,hd⟩:=load_below hb hl2
 exact ⟨v',h1,(h2.cutTo hd).mono (cut_two li)⟩
theorem calm_range (T:∀ j o,ops[j]?=some o→Tr E sl C lo cm ops S H V G j o) (hK:KeepC C) (hlo:lo≤(H 0).length) {c:Nat × Nat} (hc:cm=some c) (hb:c.1<(H 0).length) {i:Nat}:∀ {j:Nat},i≤j→j≤ops.size →
  (∀ k,i≤k→k<j→nq E sl ops G k→∀ o,ops[k]?=some o→raceAt E sl ops (Region.before ops) k o=true)→(H j)[c.1]?=(H i)[c.1]?:=by
 intro j
 induction j with
 | zero => intro hij _ _; have : i = 0 := by omega
           subst this;rfl
 | succ j ih =>
  intro hij hj hr
  by_cases e:i=j+1
  ·subst e;rfl
  ·have h1:=ih (by omega) (by omega) fun k h1 h2=>hr k h1 (by omega)
   rw [← h1]
   have hlt:j<ops.size:=by omega
   by_cases hq:nq E sl ops G j
   ·have t:=T j ops[j] (by simp [hlt])
    exact t.calm c hc hq.1 (hr j (by omega) (by omega) hq _ (by simp [hlt]))
   ·exact (keep_quiet T hK hlo hlt hq).2.1 _ (Nat.lt_of_lt_of_le hb (len_mono T hK hlo (Nat.zero_le _) (by omega)))
theorem Inv.calm (T:∀ j o,ops[j]?=some o→Tr E sl C lo cm ops S H V G j o) (hK:KeepC C) (hok:okDraw ops=true) (hlo:lo≤(H 0).length) {c:Nat × Nat} (hc:cm=some c) (hb:c.1<c.2∧c.2≤(H 0).length) (I:Inv E sl B lo ops S H V G M₀ w₀ listed M a w) {i:Nat} {o:Oper} (ho:ops[i]?=some o)
  (hu:listed.getD i true=false) (hall:∀ e∈o.after,Region.binds .any e=true→listed.getD e.on false=true) (hst:stillAt E sl ops (Region.before ops) i o=true)
  (t:TypeId) (ad:Addr) (x' v:Value) (hl:ad.block=c.1) (hany:((H i)[c.1]?).any (belowO c.2)=true) (hld:aLoad E.P (H i) t (.pointer (some ad))=some v) (hx:VRel (M.cut (H i).length) (.pointer (some ad)) x'):∃ v',(Instr.loadAt t x').run E.P w=.ok v' w∧VRel (M.cut (H i).length) v v':=by
 have hi:i<ops.size:=(Array.getElem?_eq_some_iff.1 ho).1
 obtain ⟨j,hj,c1,c2⟩:=I.place hok
 have hs:=(I.view j hj c1 c2).1
 have race:∀ k,k≠i→nq E sl ops G k→orderedIn (Region.before ops) k i=false→∀ o,ops[k]?=some o→raceAt E sl ops (Region.before ops) k o=true:=by
  intro k hk hq hno y hy
  obtain ⟨_,o',ho',hw,_⟩:=hq
  rw [hy] at ho';cases ho'
  unfold raceAt
  rw [hw]
  simp only [beq_self_eq_true,Bool.true_and,List.any_eq_true,List.mem_range]
  refine ⟨i,hi,?_⟩
  rw [ho,hno]
  simp [hst]
 have e:(H j)[ad.block]?=(H i)[ad.block]?:=by
  rw [hl]
  have hb0:c.1<(H 0).length:=by omega
  rcases Nat.le_total i j with hij | hij
  ·refine calm_range T hK hlo hc hb0 hij hj fun k h1 h2 hq=>race k (fun e=>?_) hq ?_
   ·subst e;exact not_ex hu (c1 k h2 hq)
   ·cases hob:orderedIn (Region.before ops) k i with
    | false=>rfl
    | true =>
     exfalso
     have hki:k≠i:=fun e=>by subst e;exact not_ex hu (c1 k h2 hq)
     unfold orderedIn at hob
     rw [Nat.max_eq_left (by omega),Nat.min_eq_right (by omega)] at hob
     exact not_ex hu (ex_before hok I _ _ (c1 k h2 hq) hob)
  ·refine (calm_range T hK hlo hc hb0 hij (by omega) fun k h1 h2 hq=>race k (by omega) hq ?_).symm
   cases hob:orderedIn (Region.before ops) k i with
   | false=>rfl
   | true =>
    exfalso
    unfold orderedIn at hob
    rw [Nat.max_eq_right (by omega),Nat.min_eq_left (by omega)] at hob
    have:=c2 k (ready_before hok I ho hall hob) hq
    omega
 have li:c.2≤(H i).length:=Nat.le_trans hb.2 (len_mono T hK hlo (by omega) (by omega))
 have lj:c.2≤(H j).length:=Nat.le_trans hb.2 (len_mono T hK hlo (by omega) hj)
 have hb':aLoad E.P (H j) t (.pointer (some ad))=some v:=by
  rw [← hld]
  show ofCells E.P t (rdN (H j) ad)=ofCells E.P t (rdN (H i) ad)
  unfold rdN rowOf
  rw [e]
 have hx':VRel (M.cut (H j).length) (.pointer (some ad)) x':=(VRel.cutTo hx (n:=c.2) (d:=1) (by simp [below];omega)).mono (cut_two lj)
 obtain ⟨v',h1,h2⟩:=load_sound hs hb' hx'
 obtain ⟨d,hd⟩:=load_below hld (by rw [hl];exact hany)
 exact ⟨v',h1,(h2.cutTo hd).mono (cut_two li)⟩
theorem Inv.step (hcm:∀ c,cm=some c→c.1<c.2∧c.2≤(H 0).length) (hP:GoodP E.P) (hC:CSound E C) (hK:KeepC C) (T:∀ j o,ops[j]?=some o→Tr E sl C lo cm ops S H V G j o) (hok:okDraw ops=true) (hlo:lo≤(H 0).length) (hglob:∀ g v,E.glob g=some v→TRel M₀.phi (cptr v) (.pointer (some ⟨g,0,none⟩)))
  (hphi:∀ b x v,M₀.phi b x=some v→M.phi b x=some v)
  (I:Inv E sl B lo ops S H V G M₀ w₀ listed M a w) {i:Nat} {o:Oper} (ho:ops[i]?=some o)
  (hu:listed.getD i true=false) (hall:∀ e∈o.after,Region.binds .any e=true→listed.getD e.on false=true) {Q:Exit→Act→World→Prop} {K:Act→World→Prop}
  (hn:∀ M' a' w',Inv E sl B lo ops S H V G M₀ w₀ (listed.setIfInBounds i true) M' a' w'→(∀ b x v,M₀.phi b x=some v→M'.phi b x=some v)→K a' w'):wpOp E.P ops Q i K a w:=by
 have hi:i<ops.size:=(Array.getElem?_eq_some_iff.1 ho).1
 have t:=T i o ho
 have hsz:(S i).length=a.tmps.size:=(slotval T i (by omega)).1.trans I.tsize
 have hlook:=fun x hx v v'=>looks_rel hok T hK hlo I ho hu hall (t:=x) hx (v:=v) (v':=v')
 have hw:=guard_rel' (ops:=ops) hsz hlook t.guard
 have hL0:lo≤(H i).length:=Nat.le_trans hlo (len_mono T hK hlo (by omega) (by omega))
 have hLi:(H i).length≤(H (i+1)).length:=len_mono T hK hlo (by omega) (by omega)
 -- nothing but the slot has changed
 have still:∀ {v':Value},H (i+1)=H i→¬ nq E sl ops G i→VRel (M.cut (H i).length) (V i) v'→K (a.put o.dst v') w:=by
  intro v' e hnq hv
  refine hn M _ _ (I.more T hok ho hu hall (by rw [e];exact hv) I.cells (fun _=>.refl _) (fun o l hl=>.inl ⟨l,hl⟩) fun j hj c1 c2=>?_) hphi
  exact I.view j hj (fun k hk hq=>(c1 k hk hq).resolve_left fun e=>hnq (e ▸ hq)) fun k hk hq=>c2 k (.inr hk) hq
 unfold wpOp
 simp only [ho]
 rw [hw]
 cases hg:G i with
 | false =>
  simp only [Bool.false_eq_true,if_false]
  obtain ⟨e1,e2⟩:=t.skip hg
  refine still e2 (fun h=>by rw [h.1] at hg;cases hg) ?_
  rw [e1];exact .skip _
 | true =>
  simp only [if_true]
  refine .inl ?_
  have hrun:=t.run hg
  have hops:=opnd_rel (E:=E) (M:=M.cut (H i).length) (ops:=ops) (fun g v hg=>.tree _ _ _ _ ((hglob g v hg).mono hphi)) hsz hlook
  by_cases hcl:stillAt E sl ops (Region.before ops) i o=true
  ·have hs1:strictAt E sl ops (Region.before ops) i o=true:=by unfold strictAt;rw [hcl];rfl
   have hl:=(Bool.and_eq_true_iff.1 (Bool.and_eq_true_iff.1 hcl).1).2
   rw [hs1,Bool.true_and] at hrun
   cases hq:calmQ cm (H i) o.op (evalA E (S i)) with
   | true =>
    rw [hq] at hrun
    obtain ⟨tt,xx,hop⟩:=calm_load hq
    obtain ⟨c,hc⟩:∃ c,cm=some c:=by
     cases cm with
     | none=>cases hq
     | some c=>exact ⟨c,rfl⟩
    rw [hc,hop] at hq
    simp only [calmQ,calmL] at hq
    split at hq
    case h_2=>cases hq
    rename_i ad had
    rw [Bool.and_eq_true,beq_iff_eq] at hq
    simp only [hop,aop,had,Bool.not_true,Bool.false_and,Bool.false_eq_true,if_false,Option.map_eq_some_iff,Prod.mk.injEq] at hrun
    obtain ⟨_,hb,rfl,hH⟩:=hrun
    have hxr:=hops xx (by simp [hop,Op.operands])
    rw [had] at hxr
    obtain ⟨v',h1,h2⟩:=I.calm T hK hok hlo hc (hcm c hc) ho hu hall hcl tt ad _ _ hq.1 hq.2 hb hxr
    refine plain_upon (by simp [execOp,hop]) h1 (still hH.symm (fun h=>?_) h2)
    obtain ⟨_,o',ho',hcw,_⟩:=h
    rw [ho] at ho';cases ho'
    rw [hop] at hcw;cases hcw
   | false =>
   rw [hq] at hrun
   refine still_upon hl hrun (M.cut (H i).length) w a I.cells hops (I.low T hK hok hlo hi) K Q fun v' hv=>still (load_same hl hrun) (fun h=>?_) hv
   obtain ⟨_,o',ho',hcw,_⟩:=h
   rw [ho] at ho';cases ho'
   cases hop:o.op <;> rw [hop] at hl hcw <;> first | (cases hl;done) | (cases hcw;done)
  have hclf:stillAt E sl ops (Region.before ops) i o=false:=by simpa using hcl
  rw [flag_eq hclf] at hrun
  by_cases hc:clsOf E o.op=.pure
  ·obtain ⟨e,hp⟩:=pure_upon hc hrun
   refine hp (M.cut (H i).length) w a hops K Q fun v' hv=>still e (fun h=>?_) hv
   obtain ⟨_,o',ho',hcw,_⟩:=h
   rw [ho] at ho';cases ho'
   rw [hc] at hcw;cases hcw
  ·-- what else writes is ordered with this
   have hord:∀ e,nq E sl ops G e→e≠i→(e<i→Ex ops listed e)∧(i<e→¬ Ex ops listed e):=by
    intro e he hne
    obtain ⟨o1,o2⟩:=nq_ordered he ho (by unfold quietAt;rw [hclf,Bool.or_false];simpa using hc) (Ne.symm hne)
    exact ⟨fun h=>ready_before hok I ho hall (o1 h),fun h hx=>not_ex hu (ex_before hok I _ _ hx (o2 h))⟩
   obtain ⟨hview,hevo⟩:=I.view i (by omega) (fun e he hq=>(hord e hq (by omega)).1 he) fun e hx hq=>by
    rcases Nat.lt_trichotomy e i with h | h | h
    ·exact h
    ·subst h;exact absurd hx (not_ex hu)
    ·exact absurd hx ((hord e hq (by omega)).2 h)
   have hfree:∀ o,(H i).length≤o→o<(H (i+1)).length→M.obj o=none:=by
    intro o h1 h2
    cases hm:M.obj o with
    | none=>rfl
    | some l =>
     rcases I.dom o l hm with h3 | ⟨k,hk,h3,h4⟩
     ·have:=len_mono T hK hlo (i:=0) (j:=i) (by omega) (by omega);omega
     ·rcases Nat.lt_trichotomy k i with h | h | h
      ·have:=len_mono T hK hlo (i:=k+1) (j:=i) (by omega) (by omega);omega
      ·subst h;exact absurd hk (not_ex hu)
      ·have:=len_mono T hK hlo (i:=i+1) (j:=k) (by omega) (Nat.le_of_lt hk.1);omega
   refine aop_sound hP hC hview hL0 hrun hops (evalA_func E _) fun v' w₁ hout=>?_
   obtain ⟨M₁,q1,q2,q3⟩:=hout
   have hdom₁:∀ o l,M₁.obj o=some l→o<(H (i+1)).length:=fun o l h=>q2.lt o l h
   have hphi₁:∀ b x v,M₀.phi b x=some v→M₁.phi b x=some v:=fun b x v h=>q3.le.phi b x v (hphi b x v h)
   by_cases hnq:nq E sl ops G i
   ·-- it writes: all that looks into memory ahead of it has been carried out,nothing behind it
    have hlow:lo≤loOf E (strictAt E sl ops (Region.before ops) i o) o.op lo (H i):=by unfold loOf;split <;> omega
    have q3:=q3.weaken hlow
    -- nothing has been made behind it
    have hno:∀ o' l,M.obj o'=some l→o'<(H i).length:=by
     intro o' l hl
     rcases I.dom o' l hl with h | ⟨k,hk,h3,h4⟩
     ·exact Nat.lt_of_lt_of_le h (len_mono T hK hlo (by omega) (by omega))
     ·obtain ⟨y,hy⟩:∃ y,ops[k]?=some y:=⟨ops[k]'hk.1,by simp [hk.1]⟩
      have hki:k<i:=by
       rcases Nat.lt_trichotomy k i with h | h | h
       ·exact h
       ·subst h;exact absurd hk (not_ex hu)
       ·exfalso
        have hyc:quietAt E sl ops (Region.before ops) k y=false:=by
         rw [Bool.eq_false_iff]
         intro hyp
         have tk:=T k y hy
         cases hgk:G k with
         | false=>obtain ⟨_,e⟩:=tk.skip hgk;rw [e] at h4;omega
         | true =>
          have e:H (k+1)=H k:=by
           unfold quietAt at hyp
           rw [Bool.or_eq_true] at hyp
           rcases hyp with hyp | hyp
           ·exact (pure_upon (by simpa using hyp) (tk.run hgk)).1
           ·exact load_same (Bool.and_eq_true_iff.1 (Bool.and_eq_true_iff.1 hyp).1).2 (tk.run hgk)
          rw [e] at h4;omega
        have:=(nq_ordered hnq hy hyc (by omega)).1 h
        exact not_ex hu (ex_before hok I _ _ hk this)
      exact Nat.lt_of_lt_of_le h4 (len_mono T hK hlo (by omega) (by omega))
    have hcutM:M.cut (H i).length=M:=cut_eq hno
    rw [hcutM] at q3 hevo
    refine hn M₁ _ _ (I.more T hok ho hu hall (by rw [cut_eq hdom₁];exact q1) q2.phi (fun n=>cut_cut_le (fun o l _ hl=>q3.le.obj o l hl) q3.le.phi) (fun o' l hl=>?_) fun j hj c1 c2=>?_) hphi₁
    ·by_cases hlt:o'<(H i).length
     ·cases hm:M.obj o' with
      | none=>have:=q3.non o' hlt hm;rw [hl] at this;cases this
      | some l₀=>exact .inl ⟨l₀,rfl⟩
     ·exact .inr ⟨by omega,hdom₁ o' l hl⟩
    ·have hij:i<j:=c2 i (.inl rfl) hnq
     have kr:=keep_range T hK hlo (i:=i+1) (j:=j) (by omega) hj fun k h1 h2 hq=>by
      rcases c1 k h2 hq with h | h
      ·omega
      ·exact absurd h ((hord k hq (by omega)).2 (by omega))
     obtain ⟨ex,hex⟩:=kr.ext
     have hcut:M₁.cut (H j).length=M₁:=cut_eq fun o' l hl=>Nat.lt_of_lt_of_le (hdom₁ o' l hl) kr.1
     rw [hcut,hex]
     exact ⟨q2.pad,(hevo.trans q3).pad hdom₁ hlo⟩
   ·-- it leaves what is there alone
    have hlow:loOf E (strictAt E sl ops (Region.before ops) i o) o.op lo (H i)=(H i).length:=by
     unfold loOf
     rw [if_pos]
     by_cases hww:clsOf E o.op=.write
     ·cases hss:strictAt E sl ops (Region.before ops) i o with
      | true=>rfl
      | false=>exact absurd ⟨hg,o,ho,hww,hss⟩ hnq
     ·simp [hww]
    rw [hlow] at q3
    have noHad:∀ b,¬ Had (H i).length (M.cut (H i).length) (H i) b:=by
     rintro b ⟨o,l,h1,h2,_⟩
     have:=(cut_some h2).1
     omega
    have hblk:∀ b,b<w.heap.size→w₁.heap[b]?=w.heap[b]?:=fun b hb=>q3.block b hb (noHad b)
    have hnew:∀ b x v,M₁.phi b x=some v→M.phi b x=some v∨w.heap.size≤b:=fun b x v hv=>by
     rcases q3.fro b x v hv with h | h | h
     ·exact .inl h
     ·exact .inr h
     ·exact absurd h (noHad b)
    -- the new objects,and what was there
    obtain ⟨M',hM'⟩:∃ M':Mem,M'=⟨fun o=>if (H i).length≤o∧o<(H (i+1)).length then M₁.obj o else M.obj o,M₁.phi⟩:=⟨_,rfl⟩
    have e1:∀ o,(H i).length≤o→o<(H (i+1)).length→M'.obj o=M₁.obj o:=fun o h1 h2=>by rw [hM'];simp [h1,h2]
    have e2:∀ o,¬ ((H i).length≤o∧o<(H (i+1)).length)→M'.obj o=M.obj o:=fun o h=>by rw [hM'];simp only [if_neg h]
    have e3:M'.phi=M₁.phi:=by rw [hM']
    have hle':∀ n,(M.cut n).Le (M'.cut n):=fun n=>cut_cut_le (fun o l _ hl=>⟨l,by
     rw [e2 o fun h=>by rw [hfree o h.1 h.2] at hl;cases hl];exact hl,.refl l⟩) (by rw [e3];exact q3.le.phi)
    have hle₁:M₁.Le (M'.cut (H (i+1)).length):=⟨fun o l hl=>⟨l,cut_of (hdom₁ o l hl) (by
     by_cases h2:o<(H i).length
     ·rw [q3.ext o h2] at hl
      rw [e2 o (by omega)]
      exact (cut_some hl).2
     ·rw [e1 o (by omega) (hdom₁ o l hl)];exact hl),.refl l⟩,by
      intro b x v hv
      show M'.phi b x=some v
      rw [e3];exact hv⟩
    refine hn M' _ _ (I.more T hok ho hu hall (q1.mono hle₁) (by rw [e3];exact q2.phi) hle' (fun o' l hl=>?_) fun j hj c1 c2=>?_) (by rw [e3];exact hphi₁)
    ·by_cases hin:(H i).length≤o'∧o'<(H (i+1)).length
     ·exact .inr hin
     ·rw [e2 o' hin] at hl;exact .inl ⟨l,hl⟩
    ·obtain ⟨old,oevo⟩:=I.view j hj (fun k hk hq=>(c1 k hk hq).resolve_left fun e=>hnq (e ▸ hq)) fun k hk hq=>c2 k (.inr hk) hq
     have mono:=hle' (H j).length
     -- an object is old,or it is new
     have part:∀ o' l,(M'.cut (H j).length).obj o'=some l→((M.cut (H j).length).obj o'=some l)∨((H i).length≤o'∧o'<(H (i+1)).length∧i<j∧M₁.obj o'=some l):=by
      intro o' l hl
      obtain ⟨h1,h2⟩:=cut_some hl
      by_cases hin:(H i).length≤o'∧o'<(H (i+1)).length
      ·right
       rw [e1 o' hin.1 hin.2] at h2
       refine ⟨hin.1,hin.2,?_,h2⟩
       rcases Nat.lt_or_ge i j with h | h
       ·exact h
       ·have:=len_mono T hK hlo (i:=j) (j:=i) h (by omega);omega
      ·left;rw [e2 o' hin] at h2;exact cut_of h1 h2
     have same:∀ {o'},i<j→o'<(H (i+1)).length→(H j)[o']?=(H (i+1))[o']?:=by
      intro o' hij hlt
      have kr:=keep_range T hK hlo (i:=i+1) (j:=j) (by omega) hj fun k h1 h2 hq=>by
       rcases c1 k h2 hq with h | h
       ·omega
       ·exact absurd h ((hord k hq (by omega)).2 (by omega))
      exact kr.2.1 o' hlt
     have mono₁:i<j→M₁.Le (M'.cut (H j).length):=fun hij=>hle₁.trans (cut_le (len_mono T hK hlo (i:=i+1) (j:=j) (by omega) hj))
     have fresh:∀ o' l,(H i).length≤o'→M₁.obj o'=some l→alive (H (i+1)) o'→l.real→w.heap.size≤l.blk:=by
      intro o' l h1 h ha hr
      rcases q3.own o' l h1 h ha hr with r | r
      ·exact r
      ·exact absurd r (noHad _)
     have alv:∀ {o'},i<j→o'<(H (i+1)).length→alive (H j) o'→alive (H (i+1)) o':=fun {o'} hij hlt ⟨x,hx,hx'⟩=>⟨x,by rw [← same hij hlt];exact hx,hx'⟩
     have sim:HSim E B (M'.cut (H j).length) (H j) w₁:=by
      refine ⟨fun g v hg=>(old.glob g v hg).mono mono,fun b x v hv=>?_,fun o' l hl ha hr x=>?_,Nat.le_trans old.base q3.size,fun o' l hl=>?_,fun o' l ty c g hl hob=>?_,fun o' l es ck hl hob=>?_,fun o₁ o₂ l₁ l₂ h2 h3 h4 h5 h6 h7 h8=>?_,fun g hg=>(old.gany g hg).imp fun _ q=>mono.phi _ _ _ q,fun g cs hg=>⟨(old.tabs g cs hg).1,by rw [q3.block g (Nat.lt_of_lt_of_le (old.tabs g cs hg).1 old.base) (noHad _)];exact (old.tabs g cs hg).2⟩⟩
      ·exact q2.phi b x v (by rw [← e3];exact hv)
      ·show M'.phi l.blk x=none
       rw [e3]
       rcases part o' l hl with h | ⟨h0,h1,hij,h⟩
       ·cases hm:M₁.phi l.blk x with
        | none=>rfl
        | some v =>
         have d:=((old.dom o' l h).2 hr).2
         rcases hnew _ _ _ hm with k | k
         ·have:=old.sep o' l h ha hr x
          rw [show (M.cut (H j).length).phi l.blk x=M.phi l.blk x from rfl,k] at this;cases this
         ·omega
       ·exact q2.sep o' l h (alv hij h1 ha) hr x
      ·have hlt:=(cut_some hl).1
       rcases part o' l hl with h | ⟨_,_,_,h⟩
       ·obtain ⟨_,r2⟩:=old.dom o' l h
        exact ⟨hlt,fun hr=>⟨(r2 hr).1,Nat.lt_of_lt_of_le (r2 hr).2 q3.size⟩⟩
       ·exact ⟨hlt,(q2.dom o' l h).2⟩
      ·rcases part o' l hl with h | ⟨h0,h1,hij,h⟩
       ·obtain ⟨r1,r2,r3,r4⟩:=old.obj o' l ty c g h hob
        refine ⟨r1,r2,r3,fun hr=>?_⟩
        obtain ⟨cs,tt,s1,s2,s3,s4⟩:=r4 hr
        exact ⟨cs,tt,by rw [hblk _ ((old.dom o' l h).2 hr).2];exact s1,s2,s3,fun y v hv=>⟨(s4 y v hv).1,(s4 y v hv).2.imp fun _ k=>⟨k.1,k.2.mono mono⟩⟩⟩
       ·obtain ⟨r1,r2,r3,r4⟩:=q2.obj o' l ty c g h (by rw [← same hij h1];exact hob)
        refine ⟨r1,r2,r3,fun hr=>?_⟩
        obtain ⟨cs,tt,s1,s2,s3,s4⟩:=r4 hr
        exact ⟨cs,tt,s1,s2,s3,fun y v hv=>⟨(s4 y v hv).1,(s4 y v hv).2.imp fun _ k=>⟨k.1,k.2.mono (mono₁ hij)⟩⟩⟩
      ·rcases part o' l hl with h | ⟨h0,h1,hij,h⟩
       ·obtain ⟨r0,es',r1,r2,r3⟩:=old.mp o' l es ck h hob
        refine ⟨r0,es',by rw [hblk _ ((old.dom o' l h).2 (.inl r0)).2];exact r1,r2,fun y v hv=>?_⟩
        obtain ⟨e',r4,r5,r6,r7⟩:=r3 y v hv
        exact ⟨e',r4,r5,r6.mono mono,r7⟩
       ·obtain ⟨r0,es',r1,r2,r3⟩:=q2.mp o' l es ck h (by rw [← same hij h1];exact hob)
        refine ⟨r0,es',r1,r2,fun y v hv=>?_⟩
        obtain ⟨e',r4,r5,r6,r7⟩:=r3 y v hv
        exact ⟨e',r4,r5,r6.mono (mono₁ hij),r7⟩
      ·rcases part o₁ l₁ h2 with p1 | ⟨p1,p1',hij,p2⟩ <;> rcases part o₂ l₂ h3 with s1 | ⟨s1,s1',hij',s2⟩
       ·exact old.inj o₁ o₂ l₁ l₂ p1 s1 h4 h5 h6 h7 h8
       ·have:=fresh o₂ l₂ s1 s2 (alv hij' s1' h5) h7
        have:=((old.dom o₁ l₁ p1).2 h6).2
        omega
       ·have:=fresh o₁ l₁ p1 p2 (alv hij p1' h4) h6
        have:=((old.dom o₂ l₂ s1).2 h7).2
        omega
       ·exact q2.inj o₁ o₂ l₁ l₂ p2 s2 (alv hij p1' h4) (alv hij' s1' h5) h6 h7 h8
     refine ⟨sim,⟨q3.os.trans oevo.os,q3.tape.trans oevo.tape,q3.output.trans oevo.output,fun hd=>Nat.le_trans (oevo.drawn hd) (q3.drawn hd),Nat.le_trans oevo.size q3.size,fun b hb hh=>?_,oevo.len,oevo.keep,oevo.dead,fun o' ho'=>?_,oevo.le.trans mono,fun o' ho' hn'=>?_,fun o' l ho' hl ha hr=>?_,fun b x v hv=>?_⟩⟩
     ·rw [hblk b (Nat.lt_of_lt_of_le hb oevo.size)];exact oevo.block b hb hh
     ·rw [← oevo.ext o' ho']
      have:o'<(H i).length:=by omega
      simp only [Mem.cut]
      split
      ·exact e2 o' (by omega)
      ·rfl
     ·have h1:o'<(H i).length:=Nat.lt_of_lt_of_le ho' (len_mono T hK hlo (i:=0) (j:=i) (by omega) (by omega))
      have:=oevo.non o' ho' hn'
      simp only [Mem.cut] at this ⊢
      rw [e2 o' (by omega)];exact this
     ·rcases part o' l hl with h | ⟨h0,h1,hij,h⟩
      ·exact oevo.own o' l ho' h ha hr
      ·exact .inl (Nat.le_trans oevo.size (fresh o' l h0 h (alv hij h1 ha) hr))
     ·have hv:M₁.phi b x=some v:=by rw [← e3];exact hv
      rcases hnew b x v hv with h | h
      ·exact oevo.fro b x v h
      ·exact .inr (.inl (Nat.le_trans oevo.size h))
end
end Go.Proofs.YtplebjehcgcdeaaGreatDoor.Bm
