/-
 What the library's Itoa, Atoi, IndexByte and Contains compute, as functions on atoms. Conditions: none.
-/
import Derived.Test.YtplebjehcgcdeaaGreatDoorQU15
import Derived.Test.YtplebjehcgcdeaaGreatDoorQU13
import Derived.Sort.Row
import Derived.Sort.Grow
import Derived.Lib.SlicesCompact
import Derived.Sort.Statements
import Derived.Sort.Defs
import Derived.Lib.BitFns
import Derived.WalkKit
import Derived.Sort.AssemblyPlain
import Derived.Lib.Bytealg
import Derived.Lib.IndexMore
import Derived.Lib.ItoaNum
import Derived.Lib.AtoiAll
namespace Go.Proofs.YtplebjehcgcdeaaGreatDoor.Bm
open Go Go.RowKit
theorem fold_set (off:Nat):∀ (l:List Value) (k:Nat) (a:Array Value),off+k+l.length≤a.size →
  ((l.zipIdx k).foldl (fun cs (c,j)=>cs.setIfInBounds (off+j) c) a).toList=a.toList.take (off+k)++l++a.toList.drop (off+k+l.length)
 | [],k,a,_=>by simp
 | v :: l,k,a,h=>by
  simp only [List.length_cons] at h
  rw [List.zipIdx_cons,List.foldl_cons,fold_set off l (k+1) _ (by simp;omega)]
  simp only [Array.toList_setIfInBounds,List.length_cons]
  rw [show off+(k+1)=(off+k)+1 by omega,List.take_add_one,List.drop_set_of_lt (by omega)]
  rw [List.take_set_of_le (by omega),List.getElem?_set_self (by simp;omega)]
  simp [Nat.add_assoc,Nat.add_comm,Nat.add_left_comm]
def litOk (s:Nat):Nat→List (Nat × Value)→Bool
 | _,[]=>true
 | k,(i,u) :: l=>i == k && ((cellsL u).length == s && (okPart u && litOk s (k+1) l))
theorem litOk_cons {s k i:Nat} {u:Value} {l:List (Nat × Value)}:litOk s k ((i,u) :: l)=(i == k && ((cellsL u).length == s && (okPart u && litOk s (k+1) l))):=rfl
theorem cells_list (u:Value):u.cells.toList=cellsL u:=by cases u <;> rfl
theorem fill_lit (s:Nat):∀ (l:List (Nat × Value)) (k:Nat) (a:Array Value),litOk s k l=true→a.size=(k+l.length) * s →
  Instr.fill (fun j=>some (j * s,s)) a l=some ⟨a.toList.take (k * s)++l.flatMap fun p=>cellsL p.2⟩
 | [],k,a,_,ha=>by
  simp only [List.length_nil,Nat.add_zero] at ha
  simp only [Instr.fill,List.flatMap_nil,List.append_nil]
  rw [List.take_of_length_le (by simp [ha])]
 | (i,u) :: l,k,a,h,ha=>by
  rw [litOk_cons] at h
  simp only [Bool.and_eq_true,beq_iff_eq] at h
  obtain ⟨rfl,h2,_,h4⟩:=h
  simp only [List.length_cons] at ha
  have hs:u.cells.size=s:=by rw [← Array.length_toList,cells_list];exact h2
  have e1:(i+(l.length+1)) * s=i * s+s+l.length * s:=by rw [Nat.add_mul,Nat.add_mul];omega
  unfold Instr.fill
  simp only
  rw [if_neg (by simp [hs];omega)]
  have hfold:(u.cells.zipIdx.foldl (fun cs (c,j)=>cs.setIfInBounds (i * s+j) c) a)=⟨a.toList.take (i * s)++cellsL u++a.toList.drop (i * s+s)⟩:=by
   have e:=fold_set (i * s) u.cells.toList 0 a (by simp [hs];omega)
   rw [← Array.toList_zipIdx,Array.foldl_toList] at e
   simp only [Nat.add_zero] at e
   rw [Array.length_toList,hs] at e
   rw [cells_list] at e
   rw [← e]
  rw [hfold,fill_lit s l (i+1) _ h4]
  ·simp only [List.flatMap_cons]
   congr 2
   rw [← List.append_assoc]
   congr 1
   rw [show (i+1) * s=i * s+s by rw [Nat.add_mul];omega]
   rw [List.take_append_of_le_length (by simp [h2];omega)]
   rw [List.take_of_length_le (by simp [h2];omega)]
  ·simp [h2]
   have e2:(i+1+l.length) * s=i * s+s+l.length * s:=by rw [Nat.add_mul,Nat.add_mul];omega
   omega
section
variable {E:Env} {h:Heap}
theorem litOk_all {s:Nat}:∀ {l:List (Nat × Value)} {k:Nat},litOk s k l=true→l.all (fun p=>okPart p.2)=true
 | [],_,_=>rfl
 | (i,u) :: l,k,hl=>by
  rw [litOk_cons] at hl
  simp only [Bool.and_eq_true] at hl
  simp only [List.all_cons,Bool.and_eq_true]
  exact ⟨hl.2.2.1,litOk_all hl.2.2.2⟩
theorem build_lit {el:El} {lv:Bool} {n:Nat} {l:List (Nat × Value)} (hl:litOk el.size 0 l=true) (hn:l.length=n) (h0:n * el.size≠0) (hb:n * el.size≤16777216) (hz:el.z.cells.size≠0) :
  buildSliceT (some el) lv h n ⟨l⟩=if lv=true∧(l.flatMap fun p=>cellsL p.2).length≠0 then some (.slice (some ⟨h.length,0,some (l.flatMap fun p=>cellsL p.2).length⟩) n n,h++[.cells el.e (l.flatMap fun p=>cellsL p.2) el.size]) else
   if (l.flatMap fun p=>cellsL p.2).all (settled 8)=true then (elemsT el.k n (l.flatMap fun p=>cellsL p.2)).map fun x=>(lst true x,h) else some (.slice (some ⟨h.length,0,none⟩) n n,h++[.cells el.e (l.flatMap fun p=>cellsL p.2) 0]):=by
 unfold buildSliceT
 have ho:=litOk_all hl
 simp only [Option.bind_some]
 rw [if_neg (by simp only [ho, Bool.not_true, Bool.false_eq_true, or_false]; rintro (h1 | h1); · omega
                ·exact hz h1.2),if_neg h0,fill_lit _ _ _ _ hl (by simp [zeros,hn])]
 generalize (l.flatMap fun p=>cellsL p.2)=cs
 simp only [Nat.zero_mul,List.take_zero,List.nil_append,Option.bind_some,depth,Bool.and_eq_true,bne_iff_ne,List.size_toArray,ne_eq]
 rfl
theorem build_lit' {el:El} {lv:Bool} {n:Nat} {l:List (Nat × Value)} (hl:litOk el.size 0 l=true) (hn:l.length=n) (h0:n * el.size≠0) (hb:n * el.size≤16777216) (hz:el.z.cells.size≠0) :
  buildSliceT (some el) lv h n l.toArray=if lv=true∧(l.flatMap fun p=>cellsL p.2).length≠0 then some (.slice (some ⟨h.length,0,some (l.flatMap fun p=>cellsL p.2).length⟩) n n,h++[.cells el.e (l.flatMap fun p=>cellsL p.2) el.size]) else
   if (l.flatMap fun p=>cellsL p.2).all (settled 8)=true then (elemsT el.k n (l.flatMap fun p=>cellsL p.2)).map fun x=>(lst true x,h) else some (.slice (some ⟨h.length,0,none⟩) n n,h++[.cells el.e (l.flatMap fun p=>cellsL p.2) 0]) :=
 build_lit hl hn h0 hb hz
variable {P:Program} {lo n:Nat}
theorem frz_row1 {a:Addr} {t:TypeId} {c l:List Value} {g s len cap:Nat} (ho:h[a.block]?=some (.cells t c g)) (hs:szOf P t=some s) (h1:lo≤a.block) (h2:stampOk a.spot g c.length=true) (h3:0<s) (h4:a.off+len * s≤c.length)
  (h5:((c.drop a.off).take (len * s)).all (settled 8)=true) (h6:elemsOf P t len ((c.drop a.off).take (len * s))=some l) (h7:len=l.length) :
  freezeV P (n+1) lo h (.slice (some a) len cap)=some (lst false l,if len=0 then h else h.set a.block .dead):=by
 by_cases h0:len=0
 ·have:l=[]:=List.eq_nil_of_length_eq_zero (by omega)
  subst this;subst h0;rfl
 ·rw [if_neg h0]
  show (if len=0 then _ else _)=_
  rw [if_neg h0,ho]
  show (szOf P t).bind _=_
  rw [hs,Option.bind_some,if_pos ⟨h1,h2,h3,h4⟩]
  show Option.bind (if ((c.drop a.off).take (len * s)).all (settled 8)=true then _ else _) _=_
  rw [if_pos h5,Option.bind_some,h6]
  rfl
theorem chunk_flat {s:Nat}:∀ {l:List Value},(∀ v∈l,∃ cs,v=.agg ⟨cs⟩∧cs.length=s)→chunk s l.length (l.flatMap cellsL)=l
 | [],_=>rfl
 | v :: l,hl=>by
  obtain ⟨cs,rfl,hc⟩:=hl v (by simp)
  have ih:=chunk_flat (l:=l) fun v hv=>hl v (by simp [hv])
  have e:(Value.agg ⟨cs⟩ :: l).flatMap cellsL=cs++l.flatMap cellsL:=rfl
  rw [e]
  show Value.agg ⟨(cs++l.flatMap cellsL).take s⟩ :: chunk s l.length ((cs++l.flatMap cellsL).drop s)=_
  rw [← hc,List.take_left',List.drop_left',hc,ih]
  ·rfl
  ·rfl
theorem flat_len {s:Nat}:∀ {l:List Value},(∀ v∈l,∃ cs,v=.agg ⟨cs⟩∧cs.length=s)→(l.flatMap cellsL).length=l.length * s
 | [],_=>by simp
 | v :: l,hl=>by
  obtain ⟨cs,rfl,hc⟩:=hl v (by simp)
  have ih:=flat_len (l:=l) fun v hv=>hl v (by simp [hv])
  rw [List.flatMap_cons,List.length_append,ih,List.length_cons,Nat.add_mul]
  show cs.length+_=_
  omega
theorem frz_agg1 {b k len cap g s:Nat} {t:TypeId} {l:List Value} {c:List Value} (ho:h[b]?=some (.cells t c (g+1))) (hs:szOf P t=some s) (ha:aggT P t=some true) (h1:lo≤b) (hc:c=l.flatMap cellsL) (hk:k=c.length) (hn:len=l.length) (h0:0<s)
  (hl:∀ v∈l,∃ cs,v=.agg ⟨cs⟩∧cs.length=s) (h5:c.all (settled 8)=true) :
  freezeV P (n+1) lo h (.slice (some ⟨b,0,some k⟩) len cap)=some (lst false l,if len=0 then h else h.set b .dead):=by
 subst hk;subst hn;subst hc
 have e0:=flat_len hl
 have e:((l.flatMap cellsL).drop 0).take (l.length * s)=l.flatMap cellsL:=by rw [← e0,List.drop_zero,List.take_length]
 refine frz_row1 ho hs h1 (by simp [stampOk]) h0 (by rw [e0];simp) (by rw [e];exact h5) ?_ rfl
 rw [e]
 unfold elemsOf
 rw [ha,hs]
 show some (chunk s l.length (l.flatMap cellsL))=_
 rw [chunk_flat hl]
theorem frz_set1 {v:Value} (h1:settled 8 v=true) (h2:one v=true):freezeV P (n+1) lo h v=some (v,h):=by
 cases v with
 | pointer p=>cases p with
  | none=>rfl
  | some a=>cases h1
 | slice p n c=>cases p with
  | none=>rfl
  | some a=>cases h1
 | agg _=>cases h2
 | tuple _=>cases h2
 | _=>first | rfl | (show (if settled 8 _=true then _ else _)=_;rw [if_pos h1])
theorem frz_agg8 {b k len cap g s:Nat} {t:TypeId} {l:List Value} {c:List Value} (ho:h[b]?=some (.cells t c (g+1))) (hs:szOf P t=some s) (ha:aggT P t=some true) (h1:lo≤b) (hc:c=l.flatMap cellsL) (hk:k=c.length) (hn:len=l.length) (h0:0<s)
  (hl:∀ v∈l,∃ cs,v=.agg ⟨cs⟩∧cs.length=s) (h5:c.all (settled 8)=true) :
  freezeV P depth lo h (.slice (some ⟨b,0,some k⟩) len cap)=some (lst false l,if len=0 then h else h.set b .dead):=frz_agg1 (n:=7) ho hs ha h1 hc hk hn h0 hl h5
theorem frz_set8 {v:Value} (h1:settled 8 v=true) (h2:one v=true):freezeV P depth lo h v=some (v,h):=frz_set1 (n:=7) h1 h2
theorem frz_ptr8 {b:Nat} {t:TypeId} {c:List Value} (ho:h[b]?=some (.cells t c 0)) (hs:szOf P t=some c.length) (ha:aggT P t=some true) (h1:lo≤b) :
  freezeV P depth lo h (.pointer (some ⟨b,0,none⟩))=(if c.all (settled 8)=true then some (c,h.set b .dead) else
   c.foldlM (init:=([],h.set b .dead)) fun r x=>(freezeV P 7 lo r.2 x).map fun y=>(r.1++[y.1],y.2)).map fun r=>(cptr (.agg ⟨r.1⟩),r.2):=by
 show (match h[b]? with
   | some (.cells t c 0)=>_
   | _=>none)=_
 rw [ho]
 show (if _ then _ else _)=_
 rw [if_pos ⟨h1,rfl,rfl,hs⟩]
 show Option.bind (if c.all (settled 8)=true then _ else _) _=_
 rw [ha]
 cases (if c.all (settled 8)=true then some (c,h.set b .dead) else
   c.foldlM (init:=([],h.set b .dead)) fun r x=>(freezeV P 7 lo r.2 x).map fun y=>(r.1++[y.1],y.2)) <;> rfl
theorem slice_all {t:TypeId} {g:Option Bool} {s:Nat} {x:Bool} {l:List Value} {a b:Option Value} (hl:l.all (fun v=>(cellsL v).length == s)=true) :
  sliceT (.sl t ⟨g,some s⟩) h (lst x l) a b none=(bound b l.length l.length).bind fun u=>(bound a u 0).map fun c=>lst (x && u == l.length) ((l.take u).drop c):=by
 cases x
 ·show (if _ then _ else none)=_
  rw [if_pos ⟨by decide,hl,by simp⟩];rfl
 ·show (if _ then _ else none)=_
  rw [if_pos ⟨by decide,hl,by simp⟩];rfl
theorem bound_nat {k:IntKind} {n m d:Nat} (hn:n≤m):bound (some (.int k (n:Int))) m d=some n:=by
 simp [bound,hn]
theorem bound_no {m d:Nat}:bound none m d=some d:=rfl
theorem slice_take {t:TypeId} {g:Option Bool} {s:Nat} {x:Bool} {l:List Value} {k:IntKind} {n:Nat} (hl:l.all (fun v=>(cellsL v).length == s)=true) (hn:n≤l.length) :
  sliceT (.sl t ⟨g,some s⟩) h (lst x l) none (some (.int k n)) none=some (lst (x && n == l.length) (l.take n)):=by
 rw [slice_all hl,bound_nat hn,Option.bind_some,bound_no];rfl
theorem index_slice {e:TypeId} {g:Option Bool} {s len cap:Nat} {a:Addr} {k:IntKind} {i:Int}:indexAddrT (.sl e ⟨g,some s⟩) (.slice (some a) len cap) (.int k i)=if 0≤i∧i<len then some (.pointer (some (shift a (i.toNat * s)))) else none:=rfl
theorem splice_one {c:List Value} {off:Nat} {v:Value} (h:off<c.length):splice c off [v]=c.set off v:=by
 unfold splice
 rw [List.set_eq_take_append_cons_drop,if_pos h]
 simp
end
end Go.Proofs.YtplebjehcgcdeaaGreatDoor.Bm
namespace Go.Proofs.YtplebjehcgcdeaaGreatDoor.Bm
open Go Go.RowKit
def depsT (P:Program) (t:TypeId):List TypeId:=match P.underlying t with
 | some (.slice e)=>[e]
 | some (.struct fs)=>fs.toList.map (·.type)
 | some (.array _ e)=>[e]
 | _=>[]
def addT (L:List TypeId):List TypeId→List TypeId
 | []=>L
 | t :: l=>addT (if L.contains t then L else L++[t]) l
def closeT (P:Program):Nat→List TypeId→List TypeId
 | 0,L=>L
 | n+1,L=>closeT P n (addT L (L.flatMap (depsT P)))
def fsOf (P:Program) (t:TypeId):Option (List (Nat × TypeId)):=match P.underlying t with
 | some (.struct fs)=>some (fs.toList.map fun f=>(f.offset,f.type))
 | _=>none
section
variable {P:Program} {n:Nat} {t:TypeId} {c:List Value}
theorem wt_int {k:IntKind} (hu:P.underlying t=some (.int k)) (h:Wt P n t c):∃ z,c=[.int k z]∧(Lit.int k z).wf=true:=by
 cases n with
 | zero=>exact h.elim
 | succ n=>unfold Wt at h;rw [hu] at h;exact h
theorem wt_bool (hu:P.underlying t=some .bool) (h:Wt P n t c):∃ b,c=[.bool b]:=by
 cases n with
 | zero=>exact h.elim
 | succ n=>unfold Wt at h;rw [hu] at h;exact h
theorem wt_str (hu:P.underlying t=some .string) (h:Wt P n t c):∃ s:ByteArray,c=[.string s]∧s.size≤maxLen:=by
 cases n with
 | zero=>exact h.elim
 | succ n=>unfold Wt at h;rw [hu] at h;exact h
theorem wt_sliceB {e:TypeId} (hu:P.underlying t=some (.slice e)) (h:Wt P n t c):∃ ls:List (List Value),c=[lst false (ls.map (elemV P e))]∧ls.length≤maxLen∧ls.length * P.bytesOf e≤reachBytes∧∀ x∈ls,∃ m,Wt P m e x:=by
 cases n with
 | zero=>exact h.elim
 | succ n =>
  unfold Wt at h;rw [hu] at h
  obtain ⟨ls,h1,h2,h3⟩:=h
  exact ⟨ls,h1,h2.1,h2.2,fun x hx=>⟨n,h3 x hx⟩⟩
theorem wt_slice {e:TypeId} (hu:P.underlying t=some (.slice e)) (h:Wt P n t c):∃ ls:List (List Value),c=[lst false (ls.map (elemV P e))]∧ls.length≤maxLen∧∀ x∈ls,∃ m,Wt P m e x :=
 (wt_sliceB hu h).imp fun _ h=>⟨h.1,h.2.1,h.2.2.2⟩
theorem wt_struct {L:List (Nat × TypeId)} (hu:fsOf P t=some L) (h:Wt P n t c):c.length=P.cellsOf t∧∀ x∈L,∃ m,Wt P m x.2 ((c.drop x.1).take (P.cellsOf x.2)):=by
 cases n with
 | zero=>exact h.elim
 | succ n =>
  unfold fsOf at hu
  unfold Wt at h
  cases hd:P.underlying t with
  | none=>rw [hd] at hu;cases hu
  | some d =>
   rw [hd] at hu h
   cases d <;> try (cases hu;done)
   simp only [Option.some.injEq] at hu
   subst hu
   refine ⟨h.1,fun x hx=>?_⟩
   obtain ⟨f,hf,rfl⟩:=List.mem_map.1 hx
   exact ⟨n,h.2 f hf⟩
theorem choose_list {α:Type} {cells:α→List Value} {Q:α→Prop}:∀ (ls:List (List Value)),(∀ x∈ls,∃ a,x=cells a∧Q a)→∃ aas:List α,ls=aas.map cells∧∀ a∈aas,Q a
 | [],_=>⟨[],rfl,fun a h=>by simp at h⟩
 | x :: ls,h=>by
  obtain ⟨a,h1,h2⟩:=h x (by simp)
  obtain ⟨aas,k1,k2⟩:=choose_list ls fun y hy=>h y (by simp [hy])
  refine ⟨a :: aas,by simp [h1,k1],fun b hb=>?_⟩
  rcases List.mem_cons.1 hb with e | e
  ·rw [e];exact h2
  ·exact k2 b e
end
def okFuncs (P : Program) : Bool := P.funcs.toList.all fun fn => !(fn.name == "runtime.NumGoroutine") && (fn.body.all okCode)
theorem okProg_of {P:Program} (h1:P.follows .mixedOrders=true) (h2:okFuncs P=true):OkProg P:=by
 unfold okFuncs at h2
 rw [List.all_eq_true] at h2
 refine ⟨h1,fun f fn hf _=>?_,fun f fn c hf hb=>?_⟩
 ·have:=h2 fn (Array.mem_toList_iff.2 (Array.mem_of_getElem? hf))
  simp only [Bool.and_eq_true,Bool.not_eq_true'] at this
  exact this.1
 ·have:=h2 fn (Array.mem_toList_iff.2 (Array.mem_of_getElem? hf))
  simp only [Bool.and_eq_true,hb] at this
  exact this.2
theorem noOrc {E:Env} (h:∀ f,E.orc f=none):OrcSound E :=
 ⟨fun f g hg=>(by rw [h] at hg;cases hg),fun f g hg=>(by rw [h] at hg;cases hg),fun f g hg=>(by rw [h] at hg;cases hg)⟩
end Go.Proofs.YtplebjehcgcdeaaGreatDoor.Bm
namespace Go.Proofs.YtplebjehcgcdeaaGreatDoor.Bm
open Go Go.RowKit Go.Sort
def insI (z:Int):List Int→List Int
 | []=>[z]
 | a :: l=>if z≤a then z :: a :: l else a :: insI z l
def sortI:List Int→List Int
 | []=>[]
 | z :: l=>insI z (sortI l)
theorem insI_perm (z:Int):∀ l:List Int,(insI z l).Perm (z :: l)
 | []=>.refl _
 | a :: l=>by
  unfold insI
  split
  ·exact .refl _
  ·exact ((insI_perm z l).cons a).trans (.swap z a l)
theorem sortI_perm:∀ l:List Int,(sortI l).Perm l
 | []=>.refl _
 | z :: l=>(insI_perm z _).trans ((sortI_perm l).cons z)
theorem insI_sorted (z:Int):∀ {l:List Int},l.Pairwise (·≤·)→(insI z l).Pairwise (·≤·)
 | [],_=>List.pairwise_singleton _ _
 | a :: l,h=>by
  have ⟨h1,h2⟩:=List.pairwise_cons.1 h
  unfold insI
  split
  ·rename_i hz
   refine List.pairwise_cons.2 ⟨fun b hb=>?_,h⟩
   rcases List.mem_cons.1 hb with rfl | hb
   ·exact hz
   ·exact Int.le_trans hz (h1 b hb)
  ·rename_i hz
   refine List.pairwise_cons.2 ⟨fun b hb=>?_,insI_sorted z h2⟩
   rcases List.mem_cons.1 ((insI_perm z l).mem_iff.1 hb) with rfl | hb
   ·omega
   ·exact h1 b hb
theorem sortI_sorted:∀ l:List Int,(sortI l).Pairwise (·≤·)
 | []=>.nil
 | z :: l=>insI_sorted z (sortI_sorted l)
theorem sortI_eq (l:List Int):l.mergeSort (fun x y=>decide (x≤y))=sortI l:=by
 refine List.Perm.eq_of_pairwise (le:=(·≤·)) (fun a b _ _ h1 h2=>Int.le_antisymm h1 h2) ?_ (sortI_sorted l) ((List.mergeSort_perm l _).trans (sortI_perm l).symm)
 refine List.Pairwise.imp (fun h=>of_decide_eq_true h) (List.pairwise_mergeSort (fun a b c h1 h2=>?_) (fun a b=>?_) l)
 ·simp only [decide_eq_true_eq] at h1 h2 ⊢; omega
 ·simp only [Bool.or_eq_true,decide_eq_true_eq];omega
def compG:Option Int→List Int→List Int
 | _,[]=>[]
 | p,a :: l=>if p=some a then compG p l else a :: compG (some a) l
def compI (zs:List Int):List Int:=compG none zs
def compF (zs:List Int):List Int:=compI zs++List.replicate (zs.length-(compI zs).length) 0
def compN (zs:List Int):Nat:=(compI zs).length
theorem compG_snoc:∀ (l:List Int) (p:Option Int) (x:Int),compG p (l++[x])=compG p l++(if l.getLast?.or p=some x then [] else [x])
 | [],p,x=>rfl
 | a :: l,p,x=>by
  simp only [List.cons_append,compG]
  split
  ·rename_i e
   rw [compG_snoc l p x,e]
   cases l with
   | nil=>rfl
   | cons b l=>rw [List.getLast?_cons_cons]
  ·rw [compG_snoc l (some a) x]
   cases l with
   | nil=>rfl
   | cons b l =>
    obtain ⟨y,hy⟩:∃ y,(b :: l).getLast?=some y:=⟨_,List.getLast?_eq_some_getLast (by simp)⟩
    rw [List.getLast?_cons_cons,hy];rfl
theorem compG_len:∀ (l:List Int) (p:Option Int),(compG p l).length≤l.length
 | [],_=>Nat.le_refl _
 | a :: l,p=>by
  unfold compG
  split
  ·exact Nat.le_succ_of_le (compG_len l p)
  ·exact Nat.succ_le_succ (compG_len l _)
theorem compF_len (zs:List Int):(compF zs).length=zs.length:=by
 have:=compG_len zs none
 unfold compF compI
 rw [List.length_append,List.length_replicate]
 omega
theorem compact_eq (zs:List Int):Lib.compact zs=compI zs:=by
 have key:∀ m,m≤zs.length→Lib.compactUpTo zs.toArray m=compI (zs.take m):=by
  intro m
  induction m with
  | zero=>intro _;simp [Lib.compactUpTo,compI,compG]
  | succ m ih =>
   intro hm
   have e:(zs.take m).getLast?.or none=if m=0 then none else some zs[m-1]!:=by
    rw [Option.or_none]
    by_cases h0:m=0
    ·subst h0;rfl
    ·rw [if_neg h0,List.getLast?_eq_getElem?,List.length_take,Nat.min_eq_left (by omega),List.getElem?_take,if_pos (by omega)]
     have:m-1<zs.length:=by omega
     simp [this]
   rw [Lib.compactUpTo_succ,ih (by omega),List.take_succ_eq_append_getElem hm,compI,compI,compG_snoc,e]
   congr 1
   unfold Lib.keeps
   have g1:zs.toArray[m]! = zs[m]:=by simp [show m<zs.length by omega]
   have g2:zs.toArray[m-1]! = zs[m-1]!:=by simp
   rw [g1,g2]
   generalize zs[m-1]! = q
   generalize zs[m]=r
   by_cases h0:m=0
   ·simp [h0]
   ·by_cases h1:r=q
    ·simp [h0,h1]
    ·have h2:¬ q=r:=fun e=>h1 e.symm
     simp [h0,h1,h2]
 have:=key zs.length (Nat.le_refl _)
 rw [List.take_length] at this
 exact this
def retI (N:Option (List Int→Nat)) (a:Option Addr) (c:Nat) (zs:List Int):Value:=match N with
 | none=>.tuple #[]
 | some m=>.slice a (m zs) c
structure SortCon (P:Program) (f:FuncId) (F:List Int→List Int) (N:Option (List Int→Nat)):Prop where
 row:∀ (blk off cap:Nat) (zs:List Int) (w:World),Holds (Value.int .i64) w blk off zs.toArray→blk<w.heap.size→zs.length<4611686018427387904→zs.length≤cap →
  Calls P f #[.slice (some ⟨blk,off,none⟩) zs.length cap] w fun e w'=>e=.returned (retI N (some ⟨blk,off,none⟩) cap zs)∧∃ n os,w'=grow (putRow (Value.int .i64) (Go.Sort.ahead w n) blk off (F zs).toArray) os
 none:∀ (p:Option Addr) (cap:Nat) (w:World),Calls P f #[.slice p 0 cap] w fun e w'=>e=.returned (retI N p cap [])∧w'=w
 dfd:∃ fn,P.funcs[f]?=some fn∧fn.body.isSome=true
 len:∀ zs,(F zs).length=zs.length
 cut:∀ m,N=some m→∀ zs,m zs≤zs.length
def intsOf:List Value→Option (List Int)
 | []=>some []
 | .int .i64 z :: l=>(intsOf l).map (z :: ·)
 | _=>none
theorem intsOf_eq:∀ {l:List Value} {zs:List Int},intsOf l=some zs→l=zs.map (.int .i64)
 | [],zs,h=>by cases h;rfl
 | v :: l,zs,h=>by
  unfold intsOf at h
  split at h
  ·rename_i e;cases e
  ·rename_i z l' e
   cases e
   obtain ⟨ys,h1,rfl⟩:=Option.map_eq_some_iff.1 h
   rw [intsOf_eq h1];rfl
  ·cases h
theorem intsOf_map:∀ zs:List Int,intsOf (zs.map (.int .i64))=some zs
 | []=>rfl
 | z :: zs=>by
  show (intsOf (zs.map (.int .i64))).map (z :: ·)=_
  rw [intsOf_map zs];rfl
def inR (F:List Int→List Int) (N:Option (List Int→Nat)) (h:Heap) (lo:Nat) (a:Addr) (n c:Nat):Option AObj→Res
 | some (.cells t row g)=>(intsOf (row.take n)).bind fun zs=>if lo≤a.block∧stampOk a.spot g row.length=true∧a.off=0∧n≤row.length∧n<4611686018427387904 then
   some (retI N (some a) c zs,h.set a.block (.cells t ((F zs).map (.int .i64)++row.drop n) g)) else none
 | _=>none
def inG (F:List Int→List Int) (N:Option (List Int→Nat)) (args:List Value) (h:Heap) (lo:Nat):Res :=
 match args with
 | [.slice (some a) n c]=>if n=0 then some (retI N (some a) c [],h) else inR F N h lo a n c h[a.block]?
 | [.slice none 0 0]=>some (retI N none 0 [],h)
 | _=>none
theorem sortI_len (zs:List Int):(sortI zs).length=zs.length:=(sortI_perm zs).length_eq
theorem set_keep' {h:Heap} {lo o:Nat} {t t':TypeId} {c d:List Value} {g g':Nat} (hob:h[o]?=some (.cells t c g)) (hlo:lo≤o):Keep lo h (h.set o (.cells t' d g')):=by
 refine ⟨by simp,fun p hp=>?_,fun p hp ha=>?_⟩
 ·rw [List.getElem?_set_ne (by omega)]
 ·by_cases he:o=p
  ·subst he;exact ⟨_,hob,by simp⟩
  ·obtain ⟨x,hx,hd⟩:=ha
   rw [List.getElem?_set_ne he] at hx
   exact ⟨x,hx,hd⟩
theorem inG_keep {F:List Int→List Int} {N:Option (List Int→Nat)} {args:List Value} {h h':Heap} {lo:Nat} {v:Value} (hr:inG F N args h lo=some (v,h')):Keep lo h h':=by
 unfold inG at hr
 split at hr
 ·split at hr
  ·cases hr;exact .refl _ _
  ·unfold inR at hr
   split at hr
   ·rename_i hob
    simp only [Option.bind_eq_some_iff,Option.ite_none_right_eq_some,Option.some.injEq,Prod.mk.injEq] at hr
    obtain ⟨zs,_,⟨h1,_⟩,_,rfl⟩:=hr
    exact set_keep' hob h1
   ·cases hr
 ·cases hr;exact .refl _ _
 ·cases hr
section
variable {E:Env} {B lo:Nat} {M:Mem} {h h':Heap} {w:World}
theorem put_eq {enc:Int→Value} {d:Array Int} {blk off:Nat} {cs:Array Value} {ty:TypeId} {fr:Nat × Nat} (hb:w.heap[blk]?=some (.cells cs ty fr)):putRow enc w blk off d=w.setRow blk (putCells enc off d cs):=by
 unfold putRow mapBlock World.setRow
 congr 1
 apply Array.ext_getElem?
 intro i
 simp only [Array.getElem?_modify]
 split
 ·rename_i e
  subst e
  rw [hb];rfl
 ·rfl
theorem putCells_get {enc:Int→Value} {d:Array Int} {off k:Nat} {c:Array Value}:(putCells enc off d c)[k]?=c[k]?.map fun x=>if off≤k∧k<off+d.size then enc d[k-off]! else x:=by
 unfold putCells
 rw [Array.getElem?_mapIdx]
theorem in_sound {f:FuncId} {F:List Int→List Int} {N:Option (List Int→Nat)} (hC:SortCon E.P f F N) {args:List Value} {v:Value} (hr:inG F N args h lo=some (v,h')) (_hlo:lo≤h.length) (args':Array Value) (hs:HSim E B M h w) (hv:VRels M args args'.toList) :
  Calls E.P f args' w fun e w'=>∃ v',e=.returned v'∧Out E B lo M h w v h' v' w':=by
 have zero:∀ m,N=some m→m []=0:=fun m hm=>by have:=hC.cut m hm [];simpa using this
 have nothing:∀ (p q:Option Addr) (c cap:Nat),VRel M (.slice p 0 c) (.slice q 0 cap)→Calls E.P f #[.slice q 0 cap] w fun e w'=>∃ v',e=.returned v'∧Out E B lo M h w (retI N p c []) h v' w':=fun p q c cap hrel =>
  (hC.none q cap w).mono fun e w' he=>⟨retI N q cap [],he.1,by
   rw [he.2]
   refine ⟨M,?_,hs,.refl hs lo⟩
   cases hN:N with
   | none=>exact .top _
   | some m=>simp only [retI,zero m hN];exact hrel⟩
 unfold inG at hr
 split at hr
 ·rename_i a n c
  obtain ⟨v1,hv1,hrel⟩:=hv.get (i:=0) (u:=.slice (some a) n c) rfl
  have hl1:args'.toList.length=1:=hv.1.symm
  have e1:args'=#[v1]:=by
   apply Array.ext'
   obtain ⟨y,hy⟩:=List.length_eq_one_iff.1 hl1
   rw [hy] at hv1 ⊢
   cases hv1;rfl
  subst e1
  split at hr
  ·rename_i h0
   cases hr;subst h0
   have hr2:=hrel
   rcases hrel.sliceSome with ⟨a',c',rfl,_,_⟩ | ⟨rfl,_,rfl,_⟩
   ·exact nothing (some a) (some a') c c' hr2
   ·exact nothing (some a) none 0 0 hr2
  ·rename_i h0
   unfold inR at hr
   split at hr
   case h_2=>cases hr
   rename_i t row g hob
   simp only [Option.bind_eq_some_iff,Option.ite_none_right_eq_some,Option.some.injEq,Prod.mk.injEq] at hr
   obtain ⟨zs,hz,⟨h1,hst,hoff0,hn,hbig⟩,rfl,rfl⟩:=hr
   have hrow:=intsOf_eq hz
   have hzl:zs.length=n:=by
    have:=congrArg List.length hrow
    simp only [List.length_take,List.length_map] at this
    omega
   rcases hrel.sliceSome with ⟨a',c',rfl,hlc,hcap⟩ | ⟨_,h0',_⟩
   case inr=>exact absurd h0' h0
   have hcap0:=hcap
   obtain ⟨l,hl,hcap⟩:=hcap
   obtain ⟨hg,hlen,hnr,hre⟩:=hs.obj _ l t row g hl hob
   have hreal:l.real:=by
    by_cases hr:l.real
    ·exact hr
    ·have:=hnr hr;rw [this] at hn;simp at hn;omega
   obtain ⟨cs,ty,hb,hsz,hoff,hc⟩:=hre hreal
   have ha:a'=⟨l.blk,l.off,none⟩∧c≤c':=by
    unfold stampOk at hst
    split at hst
    ·rename_i e
     rw [e] at hcap
     rcases hcap.2.2 with k | k
     ·have:=hcap.2.1;omega
     ·exact ⟨by rw [k,hoff0];rfl,by have:=hcap.2.1;omega⟩
    ·rename_i k g0 e
     rw [e] at hcap
     have:=hcap.2.2 ((hlen (by omega)).trans (beq_iff_eq.1 hst).symm)
     rcases this.2 with k | k
     ·omega
     ·exact ⟨by rw [k.1,hoff0];rfl,this.1⟩
    ·cases hst
   obtain ⟨rfl,hcc⟩:=ha
   have hlt:=((hs.dom _ l hl).2 hreal).2
   have hcell:∀ j,j<zs.length→cs[l.off+j]?=some (.int .i64 zs[j]!):=by
    intro j hj
    have hj':row[j]?=some (.int .i64 zs[j]!):=by
     have:(row.take n)[j]?=some (.int .i64 zs[j]!):=by rw [hrow];simp [hj]
     rw [List.getElem?_take,if_pos (by omega)] at this
     exact this
    obtain ⟨_,v',q1,q2⟩:=hc j _ hj'
    rw [q1]
    cases q2;rfl
   have hH:Holds (Value.int .i64) w l.blk l.off zs.toArray:=by
    intro j hj
    have hj:j<zs.length:=by simpa using hj
    refine ⟨?_,?_⟩
    ·have:=hcell j hj
     simp only [World.cell?,hb,Option.isSome_none,Bool.false_eq_true,if_false]
     rw [this];simp
    ·simp only [World.frozen?,hb];simp
   have con:=hC.row l.blk l.off c' zs w hH hlt (by omega) (by omega)
   rw [hzl] at con
   have hret:VRel M (retI N (some a) c zs) (retI N (some ⟨l.blk,l.off,none⟩) c' zs):=by
    cases hN:N with
    | none=>exact .top _
    | some m =>
     have hm:=hC.cut m hN zs
     exact .slice _ _ _ _ _ (show m zs≤c by omega) hcap0
   refine con.mono fun e w' he=>⟨_,he.1,?_⟩
   obtain ⟨m,os,rfl⟩:=he.2
   have p1:Past E w (Go.Sort.ahead w m):=⟨rfl,rfl,rfl,fun _=>Nat.le_add_right _ _,Nat.le_refl _,fun _ _=>rfl⟩
   have s1:HSim E B M h (Go.Sort.ahead w m):=hs.past p1 (Ψ:=M.phi) (fun _ _ _ k=>k) (fun b x v k=>hs.phi b x v k) (fun _ _ _=>rfl)
   have v1:Evo E lo M h w M h (Go.Sort.ahead w m):=Evo.past hs p1 (Ψ:=M.phi) (fun _ _ _ k=>k) (fun _ _ _=>rfl) lo
   have hb1:(Go.Sort.ahead w m).heap[l.blk]?=some (.cells cs _ (0,0)):=hb
   rw [put_eq hb1]
   have hFl:((F zs).map (Value.int .i64)).length=n:=by rw [List.length_map,hC.len,hzl]
   have hdl:((F zs).map (Value.int .i64)++row.drop n).length=row.length:=by rw [List.length_append,hFl,List.length_drop];omega
   have hput:=s1.put (lo:=lo) (t:=t) (c:=row) (d:=(F zs).map (.int .i64)++row.drop n) (g:=g) (cs:=putCells (Value.int .i64) l.off (F zs).toArray cs) hl hob hreal h1 (by simp [putCells,hsz]) (by rw [hdl];exact hoff) (.inl hdl) (fun j v hj=>by
    have hFz:(F zs).length=n:=by rw [hC.len,hzl]
    by_cases hjn:j<n
    ·rw [List.getElem?_append_left (by rw [hFl];exact hjn),List.getElem?_map,List.getElem?_eq_getElem (by rw [hFz];exact hjn)] at hj
     cases hj
     refine ⟨rfl,_,?_,.atom _ rfl⟩
     rw [putCells_get,hcell j (by omega)]
     have:l.off≤l.off+j∧l.off+j<l.off+(F zs).toArray.size:=⟨by omega,by simp;omega⟩
     simp only [Option.map_some,this,and_self,if_true]
     simp [hFz,hjn]
    ·rw [List.getElem?_append_right (by omega),hFl,List.getElem?_drop,show n+(j-n)=j by omega] at hj
     obtain ⟨q1,v',q2,q3⟩:=hc j v hj
     refine ⟨q1,v',?_,q3⟩
     rw [putCells_get,q2]
     have:¬ (l.off≤l.off+j∧l.off+j<l.off+(F zs).toArray.size):=by simp;omega
     simp only [Option.map_some,this,if_false])
   have hsame:M.put a.block { l with len:=if g=0 then l.len else ((F zs).map (Value.int .i64)++row.drop n).length } = M:=by
    refine put_same ?_
    rw [hl]
    by_cases h0:g=0
    ·simp [h0]
    ·rw [if_neg h0,hdl,← hlen h0]
   simp only [hsame] at hput
   obtain ⟨s2,v2⟩:=hput
   have p3:Past E ((Go.Sort.ahead w m).setRow l.blk (putCells (Value.int .i64) l.off (F zs).toArray cs)) (grow ((Go.Sort.ahead w m).setRow l.blk (putCells (Value.int .i64) l.off (F zs).toArray cs)) os) :=
    ⟨rfl,rfl,rfl,fun _=>Nat.le_refl _,by simp [grow],fun b hb=>by simp only [grow];rw [Array.getElem?_append_left hb]⟩
   have ph:∀ b x v,M.phi b x=some v→(grow ((Go.Sort.ahead w m).setRow l.blk (putCells (Value.int .i64) l.off (F zs).toArray cs)) os).cell? ⟨b,x,none⟩=some v:=fun b x v k=>by
    have:=s2.phi b x v k
    have hlt:=cell_lt this
    simp only [World.cell?] at this ⊢
    rw [p3.block b hlt];exact this
   have s3:=s2.past p3 (Ψ:=M.phi) (fun _ _ _ k=>k) ph (fun _ _ _=>rfl)
   have v3:=Evo.past s2 p3 (Ψ:=M.phi) (fun _ _ _ k=>k) (fun _ _ _=>rfl) lo
   exact ⟨M,hret,s3,(v1.trans v2).trans v3⟩
 ·cases hr
  obtain ⟨v1,hv1,hrel⟩:=hv.get (i:=0) (u:=.slice none 0 0) rfl
  have hl1:args'.toList.length=1:=hv.1.symm
  have e1:args'=#[v1]:=by
   apply Array.ext'
   obtain ⟨y,hy⟩:=List.length_eq_one_iff.1 hl1
   rw [hy] at hv1 ⊢
   cases hv1;rfl
  subst e1
  have hr2:=hrel
  cases hrel
  exact nothing none none 0 0 hr2
 ·cases hr
theorem L_orc {f:FuncId} {g:List Value→Heap→Nat→Res} (hg:E.orc f=some g) (args:List Value) (h:Heap):L E f args h lo=g args h lo:=by
 rw [L_eq]
 unfold evCall
 rw [hg]
theorem inG_ints {F:List Int→List Int} {N:Option (List Int→Nat)} {b k n c g:Nat} {t:TypeId} {zs ys:List Int} (hob:h[b]?=some (.cells t ((zs++ys).map (.int .i64)) (g+1))) (hlo:lo≤b) (hk:k=(zs++ys).length) (hn:n=zs.length) (h0:n≠0) (hbig:n<4611686018427387904) :
  inG F N [.slice (some ⟨b,0,some k⟩) n c] h lo=some (retI N (some ⟨b,0,some k⟩) c zs,h.set b (.cells t ((F zs++ys).map (.int .i64)) (g+1))):=by
 subst hk;subst hn
 show (if zs.length=0 then _ else inR F N h lo ⟨b,0,some (zs++ys).length⟩ zs.length c h[b]?)=_
 rw [if_neg h0,hob]
 have e1:((zs++ys).map (Value.int .i64)).take zs.length=zs.map (.int .i64):=by rw [List.map_append,List.take_left' (by simp)]
 have e2:((zs++ys).map (Value.int .i64)).drop zs.length=ys.map (.int .i64):=by rw [List.map_append,List.drop_left' (by simp)]
 show (intsOf (((zs++ys).map (Value.int .i64)).take zs.length)).bind _=_
 rw [e1,intsOf_map,Option.bind_some,if_pos ⟨hlo,by simp [stampOk],rfl,by simp,hbig⟩,e2,List.map_append]
end
end Go.Proofs.YtplebjehcgcdeaaGreatDoor.Bm
namespace Go.Proofs.YtplebjehcgcdeaaGreatDoor.Bm
open Go Go.RowKit Go.Sort
structure CellCon (P:Program) (f q:FuncId) (k:Nat) (F:List Value→Option (List Value)):Prop where
 row:∀ (blk off cap n:Nat) (c d:List Value) (w:World),F c=some d→c.length=n * k→Holds id w blk off c.toArray→blk<w.heap.size→0<n→n<4611686018427387904→n≤cap →
  Calls P f #[.slice (some ⟨blk,off,none⟩) n cap,.func (.func q) #[] #[]] w fun e w'=>e=.returned (.tuple #[])∧∃ m os,w'=grow (putRow id (Go.Sort.ahead w m) blk off d.toArray) os
 none:∀ (p:Option Addr) (cap:Nat) (w:World),Calls P f #[.slice p 0 cap,.func (.func q) #[] #[]] w fun e w'=>e=.returned (.tuple #[])∧w'=w
 dfd:∃ fn,P.funcs[f]?=some fn∧fn.body.isSome=true
 len:∀ c d,F c=some d→d.length=c.length
 atoms:∀ c d,F c=some d→c.all atom=true∧d.all atom=true
 pos:0<k
def inCR (k:Nat) (F:List Value→Option (List Value)) (h:Heap) (lo:Nat) (a:Addr) (n:Nat):Option AObj→Res
 | some (.cells t row g)=>(F (row.take (n * k))).bind fun d=>if lo≤a.block∧stampOk a.spot g row.length=true∧a.off=0∧n * k≤row.length∧n<4611686018427387904 then
   some (.tuple #[],h.set a.block (.cells t (d++row.drop (n * k)) g)) else none
 | _=>none
def inC (q:FuncId) (k:Nat) (F:List Value→Option (List Value)) (args:List Value) (h:Heap) (lo:Nat):Res :=
 match args with
 | [.slice (some a) n c,.func (.func p) ⟨[]⟩ ⟨[]⟩]=>if p=q∧n≤c then if n=0 then some (.tuple #[],h) else inCR k F h lo a n h[a.block]? else none
 | [.slice none 0 0,.func (.func p) ⟨[]⟩ ⟨[]⟩]=>if p=q then some (.tuple #[],h) else none
 | _=>none
theorem inC_keep {q:FuncId} {k:Nat} {F:List Value→Option (List Value)} {args:List Value} {h h':Heap} {lo:Nat} {v:Value} (hr:inC q k F args h lo=some (v,h')):Keep lo h h':=by
 unfold inC at hr
 split at hr
 ·split at hr
  ·split at hr
   ·cases hr;exact .refl _ _
   ·unfold inCR at hr
    split at hr
    ·rename_i hob
     simp only [Option.bind_eq_some_iff,Option.ite_none_right_eq_some,Option.some.injEq,Prod.mk.injEq] at hr
     obtain ⟨zs,_,⟨h1,_⟩,_,rfl⟩:=hr
     exact set_keep' hob h1
    ·cases hr
  ·cases hr
 ·split at hr
  ·cases hr;exact .refl _ _
  ·cases hr
 ·cases hr
section
variable {E:Env} {B lo:Nat} {M:Mem} {h h':Heap} {w:World}
theorem put_eqV {d:Array Value} {blk off:Nat} {cs:Array Value} {ty:TypeId} {fr:Nat × Nat} (hb:w.heap[blk]?=some (.cells cs ty fr)):putRow id w blk off d=w.setRow blk (putCells id off d cs):=by
 unfold putRow mapBlock World.setRow
 congr 1
 apply Array.ext_getElem?
 intro i
 simp only [Array.getElem?_modify]
 split
 ·rename_i e
  subst e
  rw [hb];rfl
 ·rfl
theorem putCells_getV {d:Array Value} {off k:Nat} {c:Array Value}:(putCells id off d c)[k]?=c[k]?.map fun x=>if off≤k∧k<off+d.size then d[k-off]! else x:=by
 unfold putCells
 rw [Array.getElem?_mapIdx]
 rfl
theorem arr_get {l:List Value} {j:Nat} (h:j<l.length):id (l.toArray[j]!)=l[j]:=by simp [h]
theorem atom_same {v v':Value} (ha:atom v=true) (hv:VRel M v v'):v'=v:=by
 cases hv with
 | atom _ _=>rfl
 | top _=>simp [atom] at ha
 | skip _=>simp [atom] at ha
 | ptr _ _ _=>simp [atom] at ha
 | slice _ _ _ _ _ _ _=>simp [atom] at ha
 | empty _ _ _ _ _ _ _=>simp [atom] at ha
 | map _ _ _ _=>simp [atom] at ha
 | func _ _ _ _ _ _ _ _ _=>simp [atom] at ha
 | iface _ _ _ _=>simp [atom] at ha
 | agg _ _ _ _ _=>simp [atom] at ha
 | tuple x _ hx _=>simp [atom] at ha
 | tree n x y _ _=>simp [atom] at ha
theorem inC_sound {f q:FuncId} {k:Nat} {F:List Value→Option (List Value)} (hC:CellCon E.P f q k F) {args:List Value} {v:Value} (hr:inC q k F args h lo=some (v,h')) (_hlo:lo≤h.length) (args':Array Value) (hs:HSim E B M h w) (hv:VRels M args args'.toList) :
  Calls E.P f args' w fun e w'=>∃ v',e=.returned v'∧Out E B lo M h w v h' v' w':=by
 have nothing:∀ (r:Option Addr) (cap:Nat),Calls E.P f #[.slice r 0 cap,.func (.func q) #[] #[]] w fun e w'=>∃ v',e=.returned v'∧Out E B lo M h w (.tuple #[]) h v' w':=fun r cap =>
  (hC.none r cap w).mono fun e w' he=>⟨_,he.1,by rw [he.2];exact ⟨M,.top _,hs,.refl hs lo⟩⟩
 have two:∀ {u:Value} {p:FuncId},args=[u,.func (.func p) ⟨[]⟩ ⟨[]⟩]→∃ u',args'=#[u',.func (.func p) #[] #[]]∧VRel M u u':=by
  intro u p e
  subst e
  obtain ⟨u',hu,r1⟩:=hv.get (i:=0) (u:=u) rfl
  obtain ⟨w',hw,r2⟩:=hv.get (i:=1) (u:=.func (.func p) ⟨[]⟩ ⟨[]⟩) rfl
  have hl2:args'.toList.length=2:=hv.1.symm
  have:w'=.func (.func p) #[] #[]:=by
   obtain ⟨x',y',rfl,hx,hy,_⟩:=r2.funcSome
   rw [Array.eq_empty_of_size_eq_zero hx.symm,Array.eq_empty_of_size_eq_zero hy.symm]
  subst this
  refine ⟨u',?_,r1⟩
  apply Array.ext'
  match hm:args'.toList,hl2 with
  | [a,b],_ =>
   rw [hm] at hu hw
   cases hu;cases hw;rfl
 unfold inC at hr
 split at hr
 ·rename_i a n c p
  obtain ⟨v1,rfl,hrel⟩:=two rfl
  split at hr
  case isFalse=>cases hr
  rename_i hpn
  obtain ⟨rfl,hnc⟩:=hpn
  split at hr
  ·rename_i h0
   cases hr;subst h0
   rcases hrel.sliceSome with ⟨a',c',rfl,_,_⟩ | ⟨rfl,_,rfl,_⟩
   ·exact nothing (some a') c'
   ·exact nothing none 0
  ·rename_i h0
   unfold inCR at hr
   split at hr
   case h_2=>cases hr
   rename_i t row g hob
   simp only [Option.bind_eq_some_iff,Option.ite_none_right_eq_some,Option.some.injEq,Prod.mk.injEq] at hr
   obtain ⟨d,hd,⟨h1,hst,hoff0,hn,hbig⟩,rfl,rfl⟩:=hr
   have hpos:=hC.pos
   have hnk:0<n * k:=Nat.mul_pos (Nat.pos_of_ne_zero h0) hpos
   have hcl:(row.take (n * k)).length=n * k:=by rw [List.length_take];omega
   have hdl0:=hC.len _ _ hd
   rw [hcl] at hdl0
   obtain ⟨hat1,hat2⟩:=hC.atoms _ _ hd
   rcases hrel.sliceSome with ⟨a',c',rfl,hlc,hcap⟩ | ⟨_,h0',_⟩
   case inr=>exact absurd h0' h0
   obtain ⟨l,hl,hcap⟩:=hcap
   obtain ⟨hg,hlen,hnr,hre⟩:=hs.obj _ l t row g hl hob
   have hreal:l.real:=by
    by_cases hr:l.real
    ·exact hr
    ·have:=hnr hr;rw [this] at hn;simp at hn;omega
   obtain ⟨cs,ty,hb,hsz,hoff,hc⟩:=hre hreal
   have ha:a'=⟨l.blk,l.off,none⟩∧c≤c':=by
    unfold stampOk at hst
    split at hst
    ·rename_i e
     rw [e] at hcap
     rcases hcap.2.2 with k | k
     ·have:=hcap.2.1;omega
     ·exact ⟨by rw [k,hoff0];rfl,by have:=hcap.2.1;omega⟩
    ·rename_i k g0 e
     rw [e] at hcap
     have:=hcap.2.2 ((hlen (by omega)).trans (beq_iff_eq.1 hst).symm)
     rcases this.2 with k | k
     ·omega
     ·exact ⟨by rw [k.1,hoff0];rfl,this.1⟩
    ·cases hst
   obtain ⟨rfl,hcc⟩:=ha
   have hlt:=((hs.dom _ l hl).2 hreal).2
   have hcell:∀ j (hj:j<n * k),cs[l.off+j]?=some ((row.take (n * k))[j]'(by omega)):=by
    intro j hj
    have hj':row[j]?=some ((row.take (n * k))[j]'(by omega)):=by
     rw [List.getElem_take]
     exact List.getElem?_eq_getElem (by omega)
    obtain ⟨_,v',q1,q2⟩:=hc j _ hj'
    rw [q1,atom_same (List.all_eq_true.1 hat1 _ (List.getElem_mem _)) q2]
   have hH:Holds id w l.blk l.off (row.take (n * k)).toArray:=by
    intro j hj
    have hj:j<n * k:=by simpa [hcl] using hj
    refine ⟨?_,?_⟩
    ·have:=hcell j hj
     simp only [World.cell?,hb,Option.isSome_none,Bool.false_eq_true,if_false]
     rw [this]
     have hjj:j<(row.take (n * k)).length:=by omega
     exact congrArg some (arr_get hjj).symm
    ·simp only [World.frozen?,hb];simp
   have con:=hC.row l.blk l.off c' n _ d w hd hcl hH hlt (by omega) hbig (by omega)
   refine con.mono fun e w' he=>⟨_,he.1,?_⟩
   obtain ⟨m,os,rfl⟩:=he.2
   have p1:Past E w (Go.Sort.ahead w m):=⟨rfl,rfl,rfl,fun _=>Nat.le_add_right _ _,Nat.le_refl _,fun _ _=>rfl⟩
   have s1:HSim E B M h (Go.Sort.ahead w m):=hs.past p1 (Ψ:=M.phi) (fun _ _ _ k=>k) (fun b x v k=>hs.phi b x v k) (fun _ _ _=>rfl)
   have v1:Evo E lo M h w M h (Go.Sort.ahead w m):=Evo.past hs p1 (Ψ:=M.phi) (fun _ _ _ k=>k) (fun _ _ _=>rfl) lo
   have hb1:(Go.Sort.ahead w m).heap[l.blk]?=some (.cells cs _ (0,0)):=hb
   rw [put_eqV hb1]
   have hdl:(d++row.drop (n * k)).length=row.length:=by rw [List.length_append,hdl0,List.length_drop];omega
   have hput:=s1.put (lo:=lo) (t:=t) (c:=row) (d:=d++row.drop (n * k)) (g:=g) (cs:=putCells id l.off d.toArray cs) hl hob hreal h1 (by simp [putCells,hsz]) (by rw [hdl];exact hoff) (.inl hdl) (fun j v hj=>by
    by_cases hjn:j<n * k
    ·rw [List.getElem?_append_left (by rw [hdl0];exact hjn),List.getElem?_eq_getElem (by rw [hdl0];exact hjn)] at hj
     cases hj
     have hda:=List.all_eq_true.1 hat2 _ (List.getElem_mem (l:=d) (n:=j) (by rw [hdl0];exact hjn))
     refine ⟨atom_one hda,_,?_,.atom _ hda⟩
     rw [putCells_getV,hcell j hjn]
     have:l.off≤l.off+j∧l.off+j<l.off+d.toArray.size:=⟨by omega,by simp;omega⟩
     simp only [Option.map_some,this,and_self,if_true]
     simp [hdl0,hjn]
    ·rw [List.getElem?_append_right (by omega),hdl0,List.getElem?_drop,show n * k+(j-n * k)=j by omega] at hj
     obtain ⟨q1,v',q2,q3⟩:=hc j v hj
     refine ⟨q1,v',?_,q3⟩
     rw [putCells_getV,q2]
     have:¬ (l.off≤l.off+j∧l.off+j<l.off+d.toArray.size):=by simp;omega
     simp only [Option.map_some,this,if_false])
   have hsame:M.put a.block { l with len:=if g=0 then l.len else (d++row.drop (n * k)).length } = M:=by
    refine put_same ?_
    rw [hl]
    by_cases h0:g=0
    ·simp [h0]
    ·rw [if_neg h0,hdl,← hlen h0]
   simp only [hsame] at hput
   obtain ⟨s2,v2⟩:=hput
   have p3:Past E ((Go.Sort.ahead w m).setRow l.blk (putCells id l.off d.toArray cs)) (grow ((Go.Sort.ahead w m).setRow l.blk (putCells id l.off d.toArray cs)) os) :=
    ⟨rfl,rfl,rfl,fun _=>Nat.le_refl _,by simp [grow],fun b hb=>by simp only [grow];rw [Array.getElem?_append_left hb]⟩
   have ph:∀ b x v,M.phi b x=some v→(grow ((Go.Sort.ahead w m).setRow l.blk (putCells id l.off d.toArray cs)) os).cell? ⟨b,x,none⟩=some v:=fun b x v k=>by
    have:=s2.phi b x v k
    have hlt:=cell_lt this
    simp only [World.cell?] at this ⊢
    rw [p3.block b hlt];exact this
   have s3:=s2.past p3 (Ψ:=M.phi) (fun _ _ _ k=>k) ph (fun _ _ _=>rfl)
   have v3:=Evo.past s2 p3 (Ψ:=M.phi) (fun _ _ _ k=>k) (fun _ _ _=>rfl) lo
   exact ⟨M,.top _,s3,(v1.trans v2).trans v3⟩
 ·rename_i p
  obtain ⟨v1,rfl,hrel⟩:=two rfl
  split at hr
  case isFalse=>cases hr
  rename_i hp
  subst hp
  cases hr
  obtain ⟨rfl,_,_⟩:=hrel.sliceNone
  exact nothing none 0
 ·cases hr
end
end Go.Proofs.YtplebjehcgcdeaaGreatDoor.Bm
namespace Go.Proofs.YtplebjehcgcdeaaGreatDoor
open Go Go.RowKit Go.Sort
def spanV (x:Int × Int):List Value:=[.int .i64 x.1,.int .i64 x.2]
def spanD:List Value→Option (List (Int × Int))
 | []=>some []
 | .int .i64 a :: .int .i64 b :: r=>(spanD r).map ((a,b) :: ·)
 | _=>none
def ltO {α:Type} (cf:α→α→Int) (x y:α):Bool:=decide (cf x y<0)
def cmpI (x y:Int):Int:=if x<y then -1 else if y<x then 1 else 0
def cmpS (x y:Int × Int):Int:=cmpI x.1 y.1
def sortS (d:List (Int × Int)):List (Int × Int):=(pdq (ltO cmpS) d.toArray 0 d.toArray.size (Lib.bitLen d.toArray.size) true true).toList
def sortSF (c:List Value):Option (List Value):=(spanD c).map fun d=>(sortS d).flatMap spanV
theorem ltS (x y:Int × Int):ltO cmpS x y=decide (x.1<y.1):=by
 unfold ltO cmpS cmpI
 by_cases h1:x.1<y.1
 ·simp [h1]
 ·by_cases h2:y.1<x.1 <;> simp [h1,h2]
theorem swoS:SWO (ltO cmpS) where
 irrefl x:=by rw [ltS];simp
 trans x y z h1 h2:=by rw [ltS] at *; simp at *; omega
 ntrans x y z h1 h2:=by rw [ltS] at *; simp at *; omega
theorem spanD_some:∀ {c:List Value} {d:List (Int × Int)},spanD c=some d→c=d.flatMap spanV
 | [],d,h=>by cases h;rfl
 | .int .i64 a :: .int .i64 b :: r,d,h=>by
  unfold spanD at h
  cases e:spanD r with
  | none=>rw [e] at h;cases h
  | some l =>
   rw [e] at h;cases h
   rw [spanD_some e];rfl
theorem spanD_flat (d:List (Int × Int)):spanD (d.flatMap spanV)=some d:=by
 induction d with
 | nil=>rfl
 | cons x d ih =>
  show (spanD (d.flatMap spanV)).map _=_
  rw [ih];rfl
theorem flat_len (d:List (Int × Int)):(d.flatMap spanV).length=d.length * 2:=by
 induction d with
 | nil=>rfl
 | cons x d ih =>
  show (d.flatMap spanV).length+1+1=(d.length+1) * 2
  rw [ih];omega
theorem flat_get:∀ (d:List (Int × Int)) (t:Nat),t<d.length * 2→(d.flatMap spanV)[t]! = (spanV d[t / 2]!)[t % 2]!
 | [],t,h=>by simp at h
 | x :: d,0,_=>rfl
 | x :: d,1,_=>rfl
 | x :: d,t+2,h=>by
  have ih:=flat_get d t (by simp at h;omega)
  have e1:(t+2) / 2=t / 2+1:=by omega
  have e2:(t+2) % 2=t % 2:=by omega
  rw [e1,e2]
  show (d.flatMap spanV)[t]! = _
  rw [ih];rfl
theorem sortS_both (d:List (Int × Int)):PermIn 0 d.toArray.size d.toArray (sortS d).toArray∧SortedIn (ltO cmpS) 0 d.toArray.size (sortS d).toArray:=by
 unfold sortS
 rw [Array.toArray_toList]
 exact pdq_sorts (ltO cmpS) swoS d.toArray 0 d.toArray.size _ true true (Nat.zero_le _) (Nat.le_refl _) (.inl rfl)
theorem sortS_perm (d:List (Int × Int)):(sortS d).Perm d:=by
 obtain ⟨h1,_,h3⟩:=(sortS_both d).1
 have hl:(sortS d).length=d.length:=by simpa using h1
 have e1:(sortS d).toArray.extract 0 d.toArray.size=(sortS d).toArray:=by rw [← h1];simp
 have e2:d.toArray.extract 0 d.toArray.size=d.toArray:=by simp
 rw [e1,e2] at h3
 simpa using h3
theorem sortS_sorted (d:List (Int × Int)):(sortS d).Pairwise fun a b=>a.1≤b.1:=by
 have h:=(sortS_both d).2
 have hl:=(sortS_perm d).length_eq
 rw [List.pairwise_iff_getElem]
 intro i j hi hj hij
 have:=h i j (Nat.zero_le _) hij (by simp;omega)
 rw [ltS] at this
 simp only [List.getElem!_toArray,hi,hj,getElem!_pos,decide_eq_false_iff_not,Int.not_lt] at this
 exact this
theorem sortSF_flat (d:List (Int × Int)):sortSF (d.flatMap spanV)=some ((sortS d).flatMap spanV):=by
 unfold sortSF
 rw [spanD_flat];rfl
end Go.Proofs.YtplebjehcgcdeaaGreatDoor
namespace Go.Proofs.YtplebjehcgcdeaaGreatDoor.Bm
open Go Go.RowKit
structure GlobAt (E:Env) (w:World):Prop where
 val:∀ g v,E.glob g=some v→∃ Φ:Phi,TRel Φ (cptr v) (.pointer (some ⟨g,0,none⟩))∧∀ b o u,Φ b o=some u→w.cell? ⟨b,o,none⟩=some u
 any:∀ g∈E.gany,∃ m,w.cell? ⟨g,0,none⟩=some (.int .i64 m)
 tab:∀ g cs,(g,cs)∈E.tabs→∃ ty fz,w.heap[g]?=some (.cells cs ty fz)
structure ScaCon (E:Env) (f:FuncId) (F:List Value→Option Value):Prop where
 dfd:∃ fn,E.P.funcs[f]?=some fn∧fn.body.isSome=true
 atoms:∀ args r,F args=some r→args.all atom=true
 calls:∀ args r,F args=some r→∀ w:World,GlobAt E w→Calls E.P f args.toArray w fun e w'=>∃ v',e=.returned v'∧(∀ M:Mem,VRel M r v')∧Below w.heap.size w w'∧(E.dm=true→w.drawn≤w'.drawn)
def scaG (F:List Value→Option Value):List Value→Heap→Nat→Res:=fun args h _=>(F args).map (·,h)
section
variable {E:Env} {B lo:Nat} {M:Mem} {h h':Heap} {w:World}
theorem glob_at (hs:HSim E B M h w):GlobAt E w where
 val g v hg:=⟨M.phi,(hs.glob g v hg).treeSome,hs.phi⟩
 any g hg:=by
  obtain ⟨m,hm⟩:=hs.gany g hg
  exact ⟨m,hs.phi _ _ _ hm⟩
 tab g cs hg:=(hs.tabs g cs hg).2
theorem atoms_same:∀ {l l':List Value},l.all atom=true→l.length=l'.length→(∀ (i:Nat) u u',l[i]?=some u→l'[i]?=some u'→VRel M u u')→l'=l
 | [],[],_,_,_=>rfl
 | a :: l,b :: l',ha,hl,hr=>by
  rw [List.all_cons,Bool.and_eq_true] at ha
  have h1:=atom_same ha.1 (hr 0 a b rfl rfl)
  have h2:=atoms_same ha.2 (by simpa using hl) fun i u u' h1 h2=>hr (i+1) u u' (by simpa using h1) (by simpa using h2)
  rw [h1,h2]
theorem sca_sound {f:FuncId} {F:List Value→Option Value} (hC:ScaCon E f F) {args:List Value} {v:Value} (hr:scaG F args h lo=some (v,h')) (args':Array Value) (hs:HSim E B M h w) (hv:VRels M args args'.toList) :
  Calls E.P f args' w fun e w'=>∃ v',e=.returned v'∧Out E B lo M h w v h' v' w':=by
 unfold scaG at hr
 rw [Option.map_eq_some_iff] at hr
 obtain ⟨r,hF,e⟩:=hr
 obtain ⟨rfl,rfl⟩:=Prod.mk.inj e
 have hl:args'=args.toArray:=by
  rw [← Array.toList_inj]
  exact atoms_same (M:=M) (hC.atoms _ _ hF) hv.1 hv.2
 subst hl
 refine (hC.calls _ _ hF w (glob_at hs)).mono ?_
 rintro e w' ⟨v',rfl,hrel,hb,hd⟩
 have p:Past E w w':=⟨hb.os,hb.tape,hb.output,hd,hb.size,hb.block⟩
 refine ⟨_,rfl,⟨M.obj,M.phi⟩,hrel _,hs.past p (Ψ:=M.phi) (fun _ _ _ h=>h) (fun b x v hv=>?_) (fun _ _ _=>rfl),Evo.past hs p (Ψ:=M.phi) (fun _ _ _ h=>h) (fun _ _ _=>rfl) lo⟩
 have h0:=hs.phi b x v hv
 rw [← h0];exact World.cell?_of_block (p.block b (cell_lt h0))
theorem sca_keep {F:List Value→Option Value} {args:List Value} {v:Value} (hr:scaG F args h lo=some (v,h')):Keep lo h h':=by
 unfold scaG at hr
 rw [Option.map_eq_some_iff] at hr
 obtain ⟨r,_,e⟩:=hr
 obtain ⟨_,rfl⟩:=Prod.mk.inj e
 exact .refl _ _
end
end Go.Proofs.YtplebjehcgcdeaaGreatDoor.Bm
namespace Go.Proofs.YtplebjehcgcdeaaGreatDoor.Bm
open Go Go.RowKit
def digN:Nat→Nat→List UInt8
 | 0,_=>[]
 | k+1,u=>if u<10 then [UInt8.ofNat (48+u)] else digN k (u / 10)++[UInt8.ofNat (48+u % 10)]
theorem digN_eq:∀ (k u:Nat),u<10 ^ k→digN k u=if k=0 then [] else Lib.decDigits u
 | 0,u,_=>rfl
 | k+1,u,h=>by
  rw [if_neg (Nat.succ_ne_zero k)]
  unfold digN
  rw [Lib.decDigits]
  by_cases q:u<10
  ·rw [if_pos q,dif_pos q]
  ·rw [if_neg q,dif_neg q]
   have hk:u / 10<10 ^ k:=by
    rw [Nat.pow_succ] at h
    exact Nat.div_lt_of_lt_mul (by rw [Nat.mul_comm];exact h)
   rw [digN_eq k (u / 10) hk]
   cases k with
   | zero=>simp at hk;omega
   | succ k=>rw [if_neg (Nat.succ_ne_zero k)]
def itoL (n:Int):List UInt8:=if n<0 then 45 :: digN 20 n.natAbs else digN 20 n.toNat
theorem itoL_eq {n:Int} (h0:-9223372036854775808≤n) (h1:n≤9223372036854775807):itoL n=Lib.itoa n:=by
 unfold itoL Lib.itoa
 split
 ·rw [digN_eq 20 _ (by omega)];rfl
 ·rw [digN_eq 20 _ (by omega)];rfl
def itoaF:List Value→Option Value
 | [.int .i64 n]=>if -9223372036854775808≤n∧n≤9223372036854775807 then some (.string ⟨⟨itoL n⟩⟩) else none
 | _=>none
def ixbF:List Value→Option Value
 | [.string s,.int .u8 c]=>some (.int .i64 (Lib.indexByte s.data.toList c.toNat.toUInt8))
 | _=>none
def contF:List Value→Option Value
 | [.string s,.string t]=>if s.size<4294967281 then some (.bool (Lib.contains s.data.toList t.data.toList)) else none
 | _=>none
def atoiF (T:TypeId):List Value→Option Value
 | [.string s]=>if s.size≤281474976710656 then (match Lib.atoiAll s.data.toList with
  | .ok v=>some (.tuple ⟨[.int .i64 v,.nilIface]⟩)
  | .«syntax»=>some (.tuple ⟨[.int .i64 0,.iface T undef]⟩)
  | .range=>some (.tuple ⟨[.int .i64 (Lib.atoiSat s.data.toList),.iface T undef]⟩)) else none
 | _=>none
def errV (T:TypeId) (l:List UInt8):Value:=.iface T (cptr (.agg ⟨[.string ⟨⟨l⟩⟩]⟩))
def globS (T:TypeId) (g:Nat):Option Value :=
 if g=2 then some (errV T [105,110,118,97,108,105,100,32,115,121,110,116,97,120]) else
 if g=3 then some (errV T [118,97,108,117,101,32,111,117,116,32,111,102,32,114,97,110,103,101]) else none
def tabsS:List (Nat × Array Value):=[(1,(Lib.pow10Tab.map fun z=>Value.int .u64 z).toArray)]
end Go.Proofs.YtplebjehcgcdeaaGreatDoor.Bm
