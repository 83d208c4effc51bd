/-
 What a step does to the relation: a new row, a write, a row that grows, a row given up for a tree. Conditions: none.
-/
import Derived.Test.YtplebjehcgcdeaaGreatDoorQU01
import Derived.Laws.AppendOwn
import Derived.WalkKit
namespace Go.Proofs.YtplebjehcgcdeaaGreatDoor.Bm
open Go Go.RowKit
structure Loc where
 blk:Nat
 size:Nat
 grown:Nat
 len:Nat
def Loc.off (_:Loc):Nat:=0
def Loc.real (l:Loc):Prop:=l.grown=0∨l.size≠0
structure Mem where
 obj:Nat→Option Loc
 phi:Nat→Nat→Option Value
def Grew (l l':Loc):Prop:=l'=l∨(l.grown≠0∧l'.grown=l.grown∧l.len<l'.len)
structure Mem.Le (M M':Mem):Prop where
 obj:∀ o l,M.obj o=some l→∃ l',M'.obj o=some l'∧Grew l l'
 phi:∀ b o v,M.phi b o=some v→M'.phi b o=some v
theorem Grew.refl (l:Loc):Grew l l:=.inl rfl
theorem Grew.trans {a b c:Loc} (h:Grew a b) (k:Grew b c):Grew a c:=by
 rcases h with rfl | ⟨h1,h2,h3⟩
 ·exact k
 ·rcases k with rfl | ⟨k1,k2,k3⟩
  ·exact .inr ⟨h1,h2,h3⟩
  ·exact .inr ⟨h1,k2.trans h2,Nat.lt_trans h3 k3⟩
theorem Mem.Le.refl (M:Mem):M.Le M:=⟨fun _ l h=>⟨l,h,.refl l⟩,fun _ _ _ h=>h⟩
theorem Mem.Le.trans {A B C:Mem} (h:A.Le B) (k:B.Le C):A.Le C :=
 ⟨fun o l hl=>by
  obtain ⟨l1,h1,h2⟩:=h.obj o l hl
  obtain ⟨l2,h3,h4⟩:=k.obj o l1 h1
  exact ⟨l2,h3,h2.trans h4⟩,fun b o v hv=>k.phi b o v (h.phi b o v hv)⟩
def Place (M:Mem) (a a':Addr):Prop:=∃ l,M.obj a.block=some l ∧
 match a.spot with
 | none=>l.grown=0∧a'=⟨l.blk,l.off+a.off,none⟩
 | some k=>l.grown≠0∧k≤l.len∧(l.len=k→a'=⟨l.blk,l.off+a.off,none⟩)
def CapRel (M:Mem) (a a':Addr) (cap cap':Nat):Prop:=∃ l,M.obj a.block=some l ∧
 match a.spot with
 | none=>l.grown=0∧cap'=cap∧(cap'=0∨a'=⟨l.blk,l.off+a.off,none⟩)
 | some k=>l.grown≠0∧k≤l.len∧(l.len=k→cap≤cap'∧(cap'=0∨(a'=⟨l.blk,l.off+a.off,none⟩∧l.off+a.off+cap' * l.grown≤l.size)))
abbrev Phi:=Nat→Nat→Option Value
inductive TRel (Φ:Phi):Value→Value→Prop
 | atom (v:Value) (h:atom v=true):TRel Φ v v
 | func (f:FuncId) (x x' y y':Array Value) (hx:x.size=x'.size) (hy:y.size=y'.size)
   (h:∀ (i:Nat) u u',x[i]?=some u→x'[i]?=some u'→TRel Φ u u') (k:∀ (i:Nat) u u',y[i]?=some u→y'[i]?=some u'→TRel Φ u u') :
   TRel Φ (.func (.func f) x y) (.func (.func f) x' y')
 | iface (t:TypeId) (v v':Value) (h:TRel Φ v v'):TRel Φ (.iface t v) (.iface t v')
 | agg (x x':Array Value) (hx:x.size=x'.size) (h1:∀ (i:Nat) u,x[i]?=some u→one u=true)
   (h:∀ (i:Nat) u u',x[i]?=some u→x'[i]?=some u'→TRel Φ u u'):TRel Φ (.agg x) (.agg x')
 | lnil (n:Nat) (hn:n<2):TRel Φ (.func (.yield n) ⟨[]⟩ ⟨[]⟩) (.slice none 0 0)
 | lst (n:Nat) (hn:n<2) (l:List Value) (a':Addr) (cap' s:Nat) (f:Nat→Nat→Value) (hc:l.length≤cap') (hx:n=1→cap'=l.length) (hsp:l=[]∨a'.spot=none)
   (h:∀ (i:Nat) v,l[i]?=some v→(cellsL v).length=s∧∀ (j:Nat) u,(cellsL v)[j]?=some u→one u=true∧Φ a'.block (a'.off+(i * s+j))=some (f i j))
   (k:∀ (i:Nat) v,l[i]?=some v→∀ (j:Nat) u,(cellsL v)[j]?=some u→TRel Φ u (f i j)):TRel Φ (.func (.yield n) ⟨[]⟩ ⟨l⟩) (.slice (some a') l.length cap')
 | cptr (v:Value) (a':Addr) (f:Nat→Value) (hsp:a'.spot=none) (h:∀ (j:Nat) u,(cellsL v)[j]?=some u→one u=true∧Φ a'.block (a'.off+j)=some (f j))
   (k:∀ (j:Nat) u,(cellsL v)[j]?=some u→TRel Φ u (f j)):TRel Φ (.func (.yield 2) ⟨[v]⟩ ⟨[]⟩) (.pointer (some a'))
inductive VRel (M:Mem):Value→Value→Prop
 | top (v:Value):VRel M (.tuple #[]) v
 | skip (n:Nat):VRel M (.chan (some n)) (.tuple #[])
 | atom (v:Value) (h:atom v=true):VRel M v v
 | ptr (a a':Addr) (h:Place M a a'):VRel M (.pointer (some a)) (.pointer (some a'))
 | slice (a a':Addr) (len cap cap':Nat) (hl:len≤cap) (h:CapRel M a a' cap cap'):VRel M (.slice (some a) len cap) (.slice (some a') len cap')
 | empty (a:Addr) (k:Nat) (l:Loc) (hs:a.spot=some k) (h:M.obj a.block=some l) (hg:l.grown≠0) (hk:k≤l.len):VRel M (.slice (some a) 0 0) (.slice none 0 0)
 | map (r:Nat) (l:Loc) (h:M.obj r=some l) (hg:l.grown=0):VRel M (.map (some r)) (.map (some l.blk))
 | func (f:FuncId) (x x' y y':Array Value) (hx:x.size=x'.size) (hy:y.size=y'.size)
   (h:∀ (i:Nat) u u',x[i]?=some u→x'[i]?=some u'→VRel M u u') (k:∀ (i:Nat) u u',y[i]?=some u→y'[i]?=some u'→VRel M u u') :
   VRel M (.func (.func f) x y) (.func (.func f) x' y')
 | iface (t:TypeId) (v v':Value) (h:VRel M v v'):VRel M (.iface t v) (.iface t v')
 | agg (x x':Array Value) (hx:x.size=x'.size) (h1:∀ (i:Nat) u,x[i]?=some u→one u=true)
   (h:∀ (i:Nat) u u',x[i]?=some u→x'[i]?=some u'→VRel M u u'):VRel M (.agg x) (.agg x')
 | tuple (x x':Array Value) (hx:x.size=x'.size)
   (h:∀ (i:Nat) u u',x[i]?=some u→x'[i]?=some u'→VRel M u u'):VRel M (.tuple x) (.tuple x')
 | tree (n:Nat) (x y:Array Value) (v':Value) (h:TRel M.phi (.func (.yield n) x y) v'):VRel M (.func (.yield n) x y) v'
theorem TRel.mono {Φ Ψ:Phi} (hm:∀ b o v,Φ b o=some v→Ψ b o=some v) {v v':Value} (h:TRel Φ v v'):TRel Ψ v v':=by
 induction h with
 | atom v h=>exact .atom v h
 | func fn x x' y y' hx hy _ _ ih ik=>exact .func fn x x' y y' hx hy ih ik
 | iface t v v' _ ih=>exact .iface t v v' ih
 | agg x x' hx h1 _ ih=>exact .agg x x' hx h1 ih
 | lnil n hn=>exact .lnil n hn
 | lst n hn l a' cap' s f hc hx hsp h _ ih=>exact .lst n hn l a' cap' s f hc hx hsp (fun i v hv=>⟨(h i v hv).1,fun j u hu=>⟨((h i v hv).2 j u hu).1,hm _ _ _ ((h i v hv).2 j u hu).2⟩⟩) ih
 | cptr v a' f hsp h _ ih=>exact .cptr v a' f hsp (fun j u hu=>⟨(h j u hu).1,hm _ _ _ (h j u hu).2⟩) ih
theorem TRel.toV {M:Mem} {v v':Value} (h:TRel M.phi v v'):VRel M v v':=by
 induction h with
 | atom v h=>exact .atom v h
 | func fn x x' y y' hx hy _ _ ih ik=>exact .func fn x x' y y' hx hy ih ik
 | iface t v v' _ ih=>exact .iface t v v' ih
 | agg x x' hx h1 _ ih=>exact .agg x x' hx h1 ih
 | lnil n hn=>exact .tree _ _ _ _ (.lnil n hn)
 | lst n hn l a' cap' s f hc hx hsp h k _=>exact .tree _ _ _ _ (.lst n hn l a' cap' s f hc hx hsp h k)
 | cptr v a' f hsp h k _=>exact .tree _ _ _ _ (.cptr v a' f hsp h k)
section
variable {M M':Mem}
theorem Place.mono {a a':Addr} (hm:M.Le M') (h:Place M a a'):Place M' a a':=by
 unfold Place at *
 obtain ⟨l,h1,h2⟩:=h
 obtain ⟨l',h3,h4⟩:=hm.obj _ l h1
 refine ⟨l',h3,?_⟩
 rcases h4 with rfl | ⟨k1,k2,k3⟩
 ·exact h2
 ·split at h2
  ·exact absurd h2.1 k1
  ·exact ⟨by omega,by omega,fun e=>by omega⟩
theorem CapRel.mono {a a':Addr} {c c':Nat} (hm:M.Le M') (h:CapRel M a a' c c'):CapRel M' a a' c c':=by
 unfold CapRel at *
 obtain ⟨l,h1,h2⟩:=h
 obtain ⟨l',h3,h4⟩:=hm.obj _ l h1
 refine ⟨l',h3,?_⟩
 rcases h4 with rfl | ⟨k1,k2,k3⟩
 ·exact h2
 ·split at h2
  ·exact absurd h2.1 k1
  ·exact ⟨by omega,by omega,fun e=>by omega⟩
theorem VRel.mono {v v':Value} (hm:M.Le M') (h:VRel M v v'):VRel M' v v':=by
 induction h with
 | top v=>exact .top v
 | skip n=>exact .skip n
 | atom v h=>exact .atom v h
 | ptr a a' h=>exact .ptr a a' (h.mono hm)
 | slice a a' len cap cap' hl h=>exact .slice a a' len cap cap' hl (h.mono hm)
 | empty a k l hs h hg hk =>
  obtain ⟨l',h3,h4⟩:=hm.obj _ l h
  rcases h4 with rfl | ⟨k1,k2,k3⟩
  ·exact .empty a k _ hs h3 hg hk
  ·exact .empty a k _ hs h3 (by omega) (by omega)
 | map r l h hg =>
  obtain ⟨l',h3,h4⟩:=hm.obj _ l h
  rcases h4 with rfl | ⟨k1,k2,k3⟩
  ·exact .map r _ h3 hg
  ·exact absurd hg k1
 | func fn x x' y y' hx hy _ _ ih ik=>exact .func fn x x' y y' hx hy ih ik
 | iface t v v' _ ih=>exact .iface t v v' ih
 | agg x x' hx h1 _ ih=>exact .agg x x' hx h1 ih
 | tuple x x' hx _ ih=>exact .tuple x x' hx ih
 | tree n x y v' h=>exact .tree n x y v' (h.mono hm.phi)
theorem VRel.int {k:IntKind} {n:Int} {v':Value} (h:VRel M (.int k n) v'):v'=.int k n:=by cases h;rfl
theorem VRel.bool {b:Bool} {v':Value} (h:VRel M (.bool b) v'):v'=.bool b:=by cases h;rfl
theorem VRel.string {b:ByteArray} {v':Value} (h:VRel M (.string b) v'):v'=.string b:=by cases h;rfl
theorem VRel.ptrNone {v':Value} (h:VRel M (.pointer none) v'):v'=.pointer none:=by cases h;rfl
theorem VRel.mapNone {v':Value} (h:VRel M (.map none) v'):v'=.map none:=by cases h;rfl
theorem VRel.nilFunc {v':Value} (h:VRel M .nilFunc v'):v'=.nilFunc:=by cases h;rfl
theorem VRel.sliceNone {l c:Nat} {v':Value} (h:VRel M (.slice none l c) v'):v'=.slice none l c∧l=0∧c=0:=by
 cases h with
 | atom _ h=>cases l <;> cases c <;> simp_all [Bm.atom]
theorem VRel.ptrSome {a:Addr} {v':Value} (h:VRel M (.pointer (some a)) v'):∃ a',v'=.pointer (some a')∧Place M a a':=by
 cases h with
 | atom _ h=>simp [Bm.atom] at h
 | ptr _ a' h=>exact ⟨a',rfl,h⟩
theorem VRel.sliceSome {a:Addr} {l c:Nat} {v':Value} (h:VRel M (.slice (some a) l c) v') :
  (∃ a' c',v'=.slice (some a') l c'∧l≤c∧CapRel M a a' c c')∨(v'=.slice none 0 0∧l=0∧c=0∧∃ k lc,a.spot=some k∧M.obj a.block=some lc∧lc.grown≠0∧k≤lc.len):=by
 cases h with
 | atom _ h=>simp [Bm.atom] at h
 | slice _ a' _ _ c' hl h=>exact .inl ⟨a',c',rfl,hl,h⟩
 | empty _ k l hs h hg hk=>exact .inr ⟨rfl,rfl,rfl,k,l,hs,h,hg,hk⟩
theorem VRel.mapSome {r:Nat} {v':Value} (h:VRel M (.map (some r)) v'):∃ l,M.obj r=some l∧l.grown=0∧v'=.map (some l.blk):=by
 cases h with
 | atom _ h=>simp [Bm.atom] at h
 | map _ l h hg=>exact ⟨l,h,hg,rfl⟩
theorem VRel.aggSome {x:Array Value} {v':Value} (h:VRel M (.agg x) v'):∃ x',v'=.agg x'∧x.size=x'.size∧(∀ (i:Nat) u,x[i]?=some u→one u=true) ∧
  ∀ (i:Nat) u u',x[i]?=some u→x'[i]?=some u'→VRel M u u':=by
 cases h with
 | atom _ h=>simp [Bm.atom] at h
 | agg _ x' hx h1 h=>exact ⟨x',rfl,hx,h1,h⟩
theorem VRel.funcSome {f:FuncId} {x y:Array Value} {v':Value} (h:VRel M (.func (.func f) x y) v'):∃ x' y',v'=.func (.func f) x' y'∧x.size=x'.size∧y.size=y'.size ∧
  (∀ (i:Nat) u u',x[i]?=some u→x'[i]?=some u'→VRel M u u')∧∀ (i:Nat) u u',y[i]?=some u→y'[i]?=some u'→VRel M u u':=by
 cases h with
 | atom _ h=>simp [Bm.atom] at h
 | func _ _ x' _ y' hx hy h k=>exact ⟨x',y',rfl,hx,hy,h,k⟩
theorem VRel.tupleSome {x:Array Value} {v':Value} (hs:x.size≠0) (h:VRel M (.tuple x) v'):∃ x',v'=.tuple x'∧x.size=x'.size ∧
  ∀ (i:Nat) u u',x[i]?=some u→x'[i]?=some u'→VRel M u u':=by
 cases h with
 | top _=>simp at hs
 | atom _ h=>simp [Bm.atom] at h
 | tuple _ x' hx h=>exact ⟨x',rfl,hx,h⟩
theorem TRel.lstSome {Φ:Phi} {n:Nat} {x:Array Value} {l:List Value} {v':Value} (hn:n<2) (h:TRel Φ (.func (.yield n) x ⟨l⟩) v'):(v'=.slice none 0 0∧l=[]) ∨
  ∃ (a':Addr) (cap' s:Nat) (f:Nat→Nat→Value),v'=.slice (some a') l.length cap'∧l.length≤cap'∧(n=1→cap'=l.length)∧(l=[]∨a'.spot=none) ∧
   (∀ (i:Nat) v,l[i]?=some v→(cellsL v).length=s∧∀ (j:Nat) u,(cellsL v)[j]?=some u→one u=true∧Φ a'.block (a'.off+(i * s+j))=some (f i j)) ∧
   ∀ (i:Nat) v,l[i]?=some v→∀ (j:Nat) u,(cellsL v)[j]?=some u→TRel Φ u (f i j):=by
 cases h with
 | atom _ h=>simp [Bm.atom] at h
 | lnil _ hn=>exact .inl ⟨rfl,rfl⟩
 | lst _ hn l a' cap' s f hc hx hsp h k=>exact .inr ⟨a',cap',s,f,rfl,hc,hx,hsp,h,k⟩
 | cptr=>omega
theorem TRel.cptrSome {Φ:Phi} {v:Value} {y:Array Value} {v':Value} (h:TRel Φ (.func (.yield 2) ⟨[v]⟩ y) v'):∃ (a':Addr) (f:Nat→Value),v'=.pointer (some a')∧a'.spot=none ∧
   (∀ (j:Nat) u,(cellsL v)[j]?=some u→one u=true∧Φ a'.block (a'.off+j)=some (f j))∧∀ (j:Nat) u,(cellsL v)[j]?=some u→TRel Φ u (f j):=by
 cases h with
 | atom _ h=>simp [Bm.atom] at h
 | cptr _ a' f hsp h k=>exact ⟨a',f,rfl,hsp,h,k⟩
theorem VRel.treeSome {n:Nat} {x y:Array Value} {v':Value} (h:VRel M (.func (.yield n) x y) v'):TRel M.phi (.func (.yield n) x y) v':=by
 cases h with
 | atom _ h=>simp [Bm.atom] at h
 | tree _ _ _ _ h=>exact h
theorem atom_one {v:Value} (h:atom v=true):one v=true:=by
 unfold atom at h;split at h <;> first | rfl | cases h
theorem VRel.of_flat {v:Value} (h:flat v=true):VRel M v v:=by
 unfold flat at h
 split at h
 ·rename_i cs
  have hc:∀ (i:Nat) u,cs[i]?=some u→Bm.atom u=true:=fun i u hu=>by
   have:=(Array.all_eq_true_iff_forall_mem.1 h) u (Array.mem_of_getElem? hu);exact this
  exact .agg cs cs rfl (fun i u hu=>atom_one (hc i u hu)) fun i u u' hu hu'=>by
   rw [hu] at hu';cases hu';exact .atom u (hc i u hu)
 ·exact .atom _ h
theorem VRel.settle {v v':Value} (hv:VRel M v v'):∀ {n:Nat},settled n v=true→TRel M.phi v v':=by
 induction hv with
 | top v=>intro n;cases n <;> simp [settled]
 | skip n=>intro n;cases n <;> simp [settled]
 | atom v h=>intro n _;exact .atom v h
 | ptr a a' h=>intro n;cases n <;> simp [settled]
 | slice a a' len cap cap' hl h=>intro n;cases n <;> simp [settled]
 | empty a k l hs h hg hk=>intro n;cases n <;> simp [settled]
 | map r l h hg=>intro n;cases n <;> simp [settled]
 | func fn x x' y y' hx hy h k ih ik =>
  intro n hs
  cases n with
  | zero=>simp [settled] at hs
  | succ n =>
   obtain ⟨x⟩:=x
   obtain ⟨y⟩:=y
   simp only [settled,Bool.and_eq_true,List.all_eq_true] at hs
   exact .func fn _ x' _ y' hx hy (fun i u u' hu hu'=>ih i u u' hu hu' (hs.1 u (List.mem_of_getElem? (by simpa using hu)))) fun i u u' hu hu'=>ik i u u' hu hu' (hs.2 u (List.mem_of_getElem? (by simpa using hu)))
 | iface t v v' _ ih =>
  intro n hs
  cases n with
  | zero=>simp [settled] at hs
  | succ n=>exact .iface t v v' (ih (by simpa [settled] using hs))
 | agg x x' hx h1 h ih =>
  intro n hs
  cases n with
  | zero=>simp [settled] at hs
  | succ n =>
   obtain ⟨x⟩:=x
   simp only [settled,List.all_eq_true] at hs
   exact .agg _ x' hx h1 fun i u u' hu hu'=>ih i u u' hu hu' (hs u (List.mem_of_getElem? (by simpa using hu)))
 | tuple x x' hx _ ih=>intro n;cases n <;> simp [settled]
 | tree n x y v' h=>intro m _;exact h
theorem VRel.scalar_eq {v v':Value} (h:scalar v=true) (hv:VRel M v v') (hu:v≠.tuple #[]):VRel ⟨fun _=>none,fun _ _=>none⟩ v v':=by
 have atom_eq:∀ {u u':Value},Bm.atom u=true→VRel M u u'→u'=u:=by
  intro u u' ha hr
  cases hr <;> first | rfl | (simp [Bm.atom] at ha)
 have flat_eq:∀ {u u':Value},flat u=true→VRel M u u'→VRel ⟨fun _=>none,fun _ _=>none⟩ u u':=by
  intro u u' hf hr
  cases hr with
  | top _=>simp [flat,Bm.atom] at hf
  | atom _ h=>exact .atom _ h
  | agg x x' hx h1 hc =>
   refine .agg x x' hx h1 fun i a a' ha ha'=>?_
   have h2:Bm.atom a=true:=by
    simp only [flat] at hf
    exact (Array.all_eq_true_iff_forall_mem.1 hf) a (Array.mem_of_getElem? ha)
   rw [atom_eq h2 (hc i a a' ha ha')]
   exact .atom _ h2
  | _=>simp [flat,Bm.atom] at hf
 unfold scalar at h
 split at h
 ·rename_i vs
  have hs:vs.size≠0:=fun e=>hu (by rw [Array.size_eq_zero_iff.1 e])
  obtain ⟨x',rfl,hx,hc⟩:=hv.tupleSome hs
  refine .tuple vs x' hx fun i a a' ha ha'=>flat_eq ?_ (hc i a a' ha ha')
  exact (Array.all_eq_true_iff_forall_mem.1 h) a (Array.mem_of_getElem? ha)
 ·exact flat_eq h hv
theorem VRel.one {v v':Value} (h:VRel M v v') (h1:one v=true):v'.oneCell'=true:=by
 cases h with
 | top _=>cases h1
 | skip _=>cases h1
 | atom _ h=>unfold Bm.atom at h;split at h <;> first | rfl | cases h
 | agg=>cases h1
 | tuple=>cases h1
 | tree n x y v' h=>cases h <;> first | rfl | (rename_i h;simp [Bm.atom] at h)
 | _=>rfl
def VRels (M:Mem) (l l':List Value):Prop:=l.length=l'.length∧∀ (i:Nat) u u',l[i]?=some u→l'[i]?=some u'→VRel M u u'
theorem VRels.get {l l':List Value} (h:VRels M l l') {i:Nat} {u:Value} (hu:l[i]?=some u):∃ u',l'[i]?=some u'∧VRel M u u':=by
 have hi:i<l'.length:=h.1 ▸ (List.getElem?_eq_some_iff.1 hu).1
 exact ⟨l'[i],List.getElem?_eq_getElem hi,h.2 i _ _ hu (List.getElem?_eq_getElem hi)⟩
theorem VRels.mono {l l':List Value} (hm:M.Le M') (h:VRels M l l'):VRels M' l l' :=
 ⟨h.1,fun i u u' hu hu'=>(h.2 i u u' hu hu').mono hm⟩
theorem VRels.nil:VRels M [] []:=⟨rfl,fun _ _ _ h=>by simp at h⟩
theorem VRels.cons {v v':Value} {l l':List Value} (h:VRel M v v') (hs:VRels M l l'):VRels M (v :: l) (v' :: l'):=by
 refine ⟨by simp [hs.1],fun i u u' hu hu'=>?_⟩
 cases i with
 | zero=>simp at hu hu';subst hu;subst hu';exact h
 | succ i=>exact hs.2 i u u' (by simpa using hu) (by simpa using hu')
theorem VRels.append {l l' r r':List Value} (h:VRels M l l') (k:VRels M r r'):VRels M (l++r) (l'++r'):=by
 refine ⟨by simp [h.1,k.1],fun i u u' hu hu'=>?_⟩
 by_cases hi:i<l.length
 ·rw [List.getElem?_append_left hi] at hu
  rw [List.getElem?_append_left (h.1 ▸ hi)] at hu'
  exact h.2 i u u' hu hu'
 ·rw [List.getElem?_append_right (Nat.le_of_not_lt hi)] at hu
  rw [List.getElem?_append_right (h.1 ▸ Nat.le_of_not_lt hi),← h.1] at hu'
  exact k.2 _ u u' hu hu'
theorem VRels.take {l l':List Value} (h:VRels M l l') (n:Nat):VRels M (l.take n) (l'.take n):=by
 refine ⟨by simp [h.1],fun i u u' hu hu'=>?_⟩
 simp only [List.getElem?_take] at hu hu'
 split at hu
 ·rename_i hi;rw [if_pos hi] at hu';exact h.2 i u u' hu hu'
 ·cases hu
theorem VRels.drop {l l':List Value} (h:VRels M l l') (n:Nat):VRels M (l.drop n) (l'.drop n):=by
 refine ⟨by simp [h.1],fun i u u' hu hu'=>?_⟩
 simp only [List.getElem?_drop] at hu hu'
 exact h.2 _ u u' hu hu'
theorem VRels.of_flat {l:List Value} (h:∀ v∈l,flat v=true):VRels M l l :=
 ⟨rfl,fun i u u' hu hu'=>by rw [hu] at hu';cases hu';exact VRel.of_flat (h u (List.mem_of_getElem? hu))⟩
end
def alive (h:Heap) (o:Nat):Prop:=∃ x,h[o]?=some x∧x≠.dead
structure HSim (E:Env) (B:Nat) (M:Mem) (h:Heap) (w:World):Prop where
 glob:∀ g v,E.glob g=some v→VRel M (cptr v) (.pointer (some ⟨g,0,none⟩))
 phi:∀ b o v,M.phi b o=some v→w.cell? ⟨b,o,none⟩=some v
 sep:∀ o l,M.obj o=some l→alive h o→l.real→∀ x,M.phi l.blk x=none
 base:B≤w.heap.size
 dom:∀ o l,M.obj o=some l→o<h.length∧(l.real→B≤l.blk∧l.blk<w.heap.size)
 obj:∀ o l t c g,M.obj o=some l→h[o]?=some (.cells t c g)→l.grown=g∧(g≠0→l.len=c.length)∧(¬ l.real→c=[]) ∧
  (l.real→∃ cs,∃ _:TypeId,w.heap[l.blk]?=some (.cells cs t (0,0))∧cs.size=l.size∧l.off+c.length≤l.size∧∀ j v,c[j]?=some v→one v=true∧∃ v',cs[l.off+j]?=some v'∧VRel M v v')
 mp:∀ o l es clock,M.obj o=some l→h[o]?=some (.map es clock)→l.grown=0∧∃ es':Array MapEntry,w.heap[l.blk]?=some (.map es' clock)∧es'.size=es.length ∧
  ∀ (i:Nat) e,es[i]?=some e→∃ e',es'[i]?=some e'∧(flat e.key=true∧e'.key=e.key)∧VRel M e.val e'.val∧e'.born=e.born
 inj:∀ o₁ o₂ l₁ l₂,M.obj o₁=some l₁→M.obj o₂=some l₂→alive h o₁→alive h o₂→l₁.real→l₂.real→l₁.blk=l₂.blk→o₁=o₂
 gany:∀ g∈E.gany,∃ m,M.phi g 0=some (.int .i64 m)
 tabs:∀ g cs,(g,cs)∈E.tabs→g<B∧∃ ty fz,w.heap[g]?=some (.cells cs ty fz)
def Had (lo:Nat) (M:Mem) (h:Heap) (b:Nat):Prop:=∃ o l,lo≤o∧M.obj o=some l∧alive h o∧l.real∧l.blk=b
structure Evo (E:Env) (lo:Nat) (M:Mem) (h:Heap) (w:World) (M':Mem) (h':Heap) (w':World):Prop where
 os:w'.os=w.os
 tape:w'.tape=w.tape
 output:w'.output=w.output
 drawn:E.dm=true→w.drawn≤w'.drawn
 size:w.heap.size≤w'.heap.size
 block:∀ b,b<w.heap.size→¬ Had lo M h b→w'.heap[b]?=w.heap[b]?
 len:h.length≤h'.length
 keep:∀ o,o<lo→h'[o]?=h[o]?
 dead:∀ o,o<h.length→alive h' o→alive h o
 ext:∀ o,o<lo→M'.obj o=M.obj o
 le:M.Le M'
 non:∀ o,o<h.length→M.obj o=none→M'.obj o=none
 own:∀ o l,lo≤o→M'.obj o=some l→alive h' o→l.real→w.heap.size≤l.blk∨Had lo M h l.blk
 fro:∀ b x v,M'.phi b x=some v→M.phi b x=some v∨w.heap.size≤b∨Had lo M h b
def Out (E:Env) (B lo:Nat) (M:Mem) (h:Heap) (w:World) (v:Value) (h':Heap) (v':Value) (w':World):Prop :=
 ∃ M',VRel M' v v'∧HSim E B M' h' w'∧Evo E lo M h w M' h' w'
section
variable {E:Env} {B lo:Nat} {M M':Mem} {h h':Heap} {w w':World}
theorem HSim.lt (hs:HSim E B M h w):∀ o l,M.obj o=some l→o<h.length:=fun o l hl=>(hs.dom o l hl).1
theorem Had.weaken {lo' b:Nat} (k:Had lo M h b) (hl:lo'≤lo):Had lo' M h b :=
 let ⟨o,l,h1,h2⟩:=k
 ⟨o,l,Nat.le_trans hl h1,h2⟩
theorem Evo.refl (_hs:HSim E B M h w) (lo:Nat):Evo E lo M h w M h w :=
 ⟨rfl,rfl,rfl,fun _=>Nat.le_refl _,Nat.le_refl _,fun _ _ _=>rfl,Nat.le_refl _,fun _ _=>rfl,fun _ _ ha=>ha,fun _ _=>rfl,.refl M,fun _ _ h=>h,fun o l ho hl ha hr=>.inr ⟨o,l,ho,hl,ha,hr,rfl⟩,fun _ _ _ h=>.inl h⟩
theorem Evo.weaken {lo':Nat} (e:Evo E lo M h w M' h' w') (hl:lo'≤lo):Evo E lo' M h w M' h' w':=by
 refine ⟨e.os,e.tape,e.output,e.drawn,e.size,fun b hb hn=>e.block b hb fun k=>hn (k.weaken hl),e.len,fun o ho=>e.keep o (Nat.lt_of_lt_of_le ho hl),e.dead,fun o ho=>e.ext o (Nat.lt_of_lt_of_le ho hl),e.le,e.non,
  fun o l ho hl' ha hr=>?_,fun b x v hv=>(e.fro b x v hv).imp id (Or.imp id fun k=>k.weaken hl)⟩
 by_cases h1:lo≤o
 ·exact (e.own o l h1 hl' ha hr).imp id fun k=>k.weaken hl
 ·have h2:o<lo:=by omega
  rw [e.ext o h2] at hl'
  refine .inr ⟨o,l,ho,hl',?_,hr,rfl⟩
  obtain ⟨x,hx,hx'⟩:=ha
  exact ⟨x,by rw [← e.keep o h2];exact hx,hx'⟩
theorem Evo.had {M₁:Mem} {h₁:Heap} {w₁:World} (e:Evo E lo M h w M₁ h₁ w₁) {b:Nat} (k:Had lo M₁ h₁ b):w.heap.size≤b∨Had lo M h b:=by
 obtain ⟨o,l,h1,h2,h3,h4,rfl⟩:=k
 exact e.own o l h1 h2 h3 h4
theorem Evo.trans {M₁ M₂:Mem} {h₁ h₂:Heap} {w₁ w₂:World} (e:Evo E lo M h w M₁ h₁ w₁) (k:Evo E lo M₁ h₁ w₁ M₂ h₂ w₂):Evo E lo M h w M₂ h₂ w₂:=by
 refine ⟨k.os.trans e.os,k.tape.trans e.tape,k.output.trans e.output,fun hd=>Nat.le_trans (e.drawn hd) (k.drawn hd),Nat.le_trans e.size k.size,fun b hb hn=>?_,Nat.le_trans e.len k.len,
  fun o ho=>(k.keep o ho).trans (e.keep o ho),fun o ho ha=>e.dead o ho (k.dead o (Nat.lt_of_lt_of_le ho e.len) ha),fun o ho=>(k.ext o ho).trans (e.ext o ho),e.le.trans k.le,
  fun o ho hn=>k.non o (Nat.lt_of_lt_of_le ho e.len) (e.non o ho hn),fun o l ho hl ha hr=>?_,fun b x v hv=>?_⟩
 ·rw [k.block b (Nat.lt_of_lt_of_le hb e.size) fun hh=>?_]
  ·exact e.block b hb hn
  ·rcases e.had hh with h1 | h1
   ·omega
   ·exact hn h1
 ·rcases k.own o l ho hl ha hr with h1 | h1
  ·exact .inl (Nat.le_trans e.size h1)
  ·exact e.had h1
 ·rcases k.fro b x v hv with h1 | h1 | h1
  ·exact e.fro b x v h1
  ·exact .inr (.inl (Nat.le_trans e.size h1))
  ·exact .inr (e.had h1)
theorem Out.same {v v':Value} (hs:HSim E B M h w) (hv:VRel M v v'):Out E B lo M h w v h v' w :=
 ⟨M,hv,hs,Evo.refl hs lo⟩
theorem Out.weaken {lo':Nat} {v v':Value} (o:Out E B lo M h w v h' v' w') (hl:lo'≤lo):Out E B lo' M h w v h' v' w' :=
 let ⟨M',h1,h2,h3⟩:=o
 ⟨M',h1,h2,h3.weaken hl⟩
theorem HSim.of_heap (hs:HSim E B M h w) (hh:w'.heap=w.heap):HSim E B M h w' :=
 ⟨hs.glob,fun b o v hv=>by simpa [World.cell?,hh] using hs.phi b o v hv,hs.sep,by rw [hh];exact hs.base,by rw [hh];exact hs.dom,by rw [hh];exact hs.obj,by rw [hh];exact hs.mp,hs.inj,hs.gany,by rw [hh];exact hs.tabs⟩
end
end Go.Proofs.YtplebjehcgcdeaaGreatDoor.Bm
namespace Go.Proofs.YtplebjehcgcdeaaGreatDoor.Bm
open Go Go.RowKit
section
variable {E:Env} {B lo:Nat} {M M':Mem} {h h':Heap} {w w':World}
theorem place_at {a a':Addr} {l:Loc} {c:List Value} {g:Nat} (hp:Place M a a') (hl:M.obj a.block=some l) (hg:l.grown=g) (hlen:g≠0→l.len=c.length) (hst:stampOk a.spot g c.length=true) :
  a'=⟨l.blk,l.off+a.off,none⟩:=by
 obtain ⟨l',h1,h2⟩:=hp
 rw [hl] at h1;cases h1
 unfold stampOk at hst
 split at hst
 ·rename_i e
  rw [e] at h2;exact h2.2
 ·rename_i k g0 e
  rw [e] at h2
  exact h2.2.2 ((hlen (by omega)).trans (beq_iff_eq.1 hst).symm)
 ·cases hst
theorem HSim.read (hs:HSim E B M h w) {a a':Addr} {n:Nat} {cs:List Value} (hp:Place M a a') (hr:rdN h a n=some cs) :
  cs.length=n∧(∀ (j:Nat) v,cs[j]?=some v→one v=true)∧∃ cs':List Value,VRels M cs cs'∧∀ j v,cs'[j]?=some v→w.cell? (a'.add j)=some v:=by
 unfold rdN rowOf at hr
 cases hob:h[a.block]? with
 | none=>simp [hob] at hr
 | some x =>
 cases x with
 | dead=>simp [hob] at hr
 | map es _=>simp [hob] at hr
 | cells t c g =>
 simp only [hob,Option.bind_eq_some_iff,Option.ite_none_right_eq_some,Option.some.injEq] at hr
 obtain ⟨_,⟨hst,rfl⟩,hle,rfl⟩:=hr
 obtain ⟨l,hl,_⟩:=id hp
 obtain ⟨hg,hlen,hnr,hre⟩:=hs.obj _ l t c g hl hob
 by_cases hreal:l.real
 ·obtain ⟨cs0,ty,hb,hsz,hoff,hc⟩:=hre hreal
  have ha:=place_at hp hl hg hlen hst
  have hcl:((c.drop a.off).take n).length=n:=by simp;omega
  have hget:∀ (j:Nat) v,((c.drop a.off).take n)[j]?=some v→c[a.off+j]?=some v:=by
   intro j v hv
   simp only [List.getElem?_take,List.getElem?_drop] at hv
   split at hv
   ·exact hv
   ·cases hv
  have hadd:∀ j,a'.add j=⟨l.blk,l.off+(a.off+j),none⟩:=by
   intro j;subst ha;unfold Addr.add;split
   ·rename_i hj;subst hj;simp
   ·simp;omega
  have hcell:∀ j v,c[j]?=some v→one v=true∧∃ v',w.cell? ⟨l.blk,l.off+j,none⟩=some v'∧VRel M v v':=fun j v hv=>by
   obtain ⟨h1,v',h2,h3⟩:=hc j v hv
   exact ⟨h1,v',by simpa [World.cell?,hb] using h2,h3⟩
  refine ⟨hcl,fun j v hv=>(hcell _ v (hget j v hv)).1,(List.range n).map fun j=>(w.cell? (a'.add j)).getD undef,⟨by simp [hcl],?_⟩,?_⟩
  ·intro i u u' hu hu'
   obtain ⟨_,v',h5,h6⟩:=hcell _ u (hget i u hu)
   have hi:i<n:=hcl ▸ (List.getElem?_eq_some_iff.1 hu).1
   simp [hi,hadd,h5] at hu'
   subst hu';exact h6
  ·intro j v hv
   have hj:j<n:=by
    have:=(List.getElem?_eq_some_iff.1 hv).1;simpa using this
   have hcj:j<((c.drop a.off).take n).length:=by rw [hcl];exact hj
   obtain ⟨_,v',h5,_⟩:=hcell _ _ (hget j _ (List.getElem?_eq_getElem hcj))
   simp [hj,hadd,h5] at hv
   rw [hadd,h5,hv]
 ·have hc0:=hnr hreal
  subst hc0
  simp at hle
  obtain ⟨h0,rfl⟩:=hle
  exact ⟨by simp,fun j v hv=>by simp at hv,[],by simpa using VRels.nil,fun j v hv=>by simp at hv⟩
theorem HSim.change (hs:HSim E B M h w) (le:M.Le M') (x:Nat) (hsize:w.heap.size≤w'.heap.size) (htb:∀ g,g<B→w'.heap[g]?=w.heap[g]?) (hlen:h.length≤h'.length)
  (old:∀ o l,o≠x→M'.obj o=some l→M.obj o=some l∧h'[o]?=h[o]?)
  (blk:∀ o l,o≠x→M.obj o=some l→alive h o→l.real→w'.heap[l.blk]?=w.heap[l.blk]?)
  (phi:∀ b o v,M'.phi b o=some v→w'.cell? ⟨b,o,none⟩=some v)
  (sep:∀ o l,o≠x→M.obj o=some l→alive h o→l.real→∀ y,M'.phi l.blk y=none)
  (new:∀ l,M'.obj x=some l→x<h'.length∧(l.real→B≤l.blk∧l.blk<w'.heap.size) ∧
   (alive h' x→l.real→(∀ y,M'.phi l.blk y=none)∧∀ o l₂,o≠x→M.obj o=some l₂→alive h o→l₂.real→l₂.blk≠l.blk) ∧
   (∀ t c g,h'[x]?=some (.cells t c g)→l.grown=g∧(g≠0→l.len=c.length)∧(¬ l.real→c=[]) ∧
    (l.real→∃ cs,∃ _:TypeId,w'.heap[l.blk]?=some (.cells cs t (0,0))∧cs.size=l.size∧l.off+c.length≤l.size∧∀ j v,c[j]?=some v→one v=true∧∃ v',cs[l.off+j]?=some v'∧VRel M' v v')) ∧
   ∀ es ck,h'[x]?=some (.map es ck)→l.grown=0∧∃ es':Array MapEntry,w'.heap[l.blk]?=some (.map es' ck)∧es'.size=es.length ∧
    ∀ (i:Nat) e,es[i]?=some e→∃ e',es'[i]?=some e'∧(flat e.key=true∧e'.key=e.key)∧VRel M' e.val e'.val∧e'.born=e.born):HSim E B M' h' w':=by
 have al:∀ {o l},o≠x→M'.obj o=some l→alive h' o→alive h o:=by
  rintro o l hx hl ⟨y,hy,hy'⟩
  exact ⟨y,by rw [← (old o l hx hl).2];exact hy,hy'⟩
 refine ⟨fun g v hg=>(hs.glob g v hg).mono le,phi,fun o l hl ha hr y=>?_,Nat.le_trans hs.base hsize,fun o l hl=>?_,fun o l t c g hl hob=>?_,fun o l es ck hl hob=>?_,fun o₁ o₂ l₁ l₂ h1 h2 h3 h4 h5 h6 h7=>?_,fun g hg=>(hs.gany g hg).imp fun _ q=>le.phi _ _ _ q,fun g cs hg=>⟨(hs.tabs g cs hg).1,by rw [htb g (hs.tabs g cs hg).1];exact (hs.tabs g cs hg).2⟩⟩
 ·by_cases hx:o=x
  ·subst hx;exact ((new l hl).2.2.1 ha hr).1 y
  ·exact sep o l hx (old o l hx hl).1 (al hx hl ha) hr y
 ·by_cases hx:o=x
  ·subst hx;exact ⟨(new l hl).1,(new l hl).2.1⟩
  ·have:=hs.dom o l (old o l hx hl).1
   exact ⟨Nat.lt_of_lt_of_le this.1 hlen,fun hr=>⟨(this.2 hr).1,Nat.lt_of_lt_of_le (this.2 hr).2 hsize⟩⟩
 ·by_cases hx:o=x
  ·subst hx;exact (new l hl).2.2.2.1 t c g hob
  ·obtain ⟨k1,k2⟩:=old o l hx hl
   have hob':=k2 ▸ hob
   obtain ⟨q1,q2,q3,q4⟩:=hs.obj o l t c g k1 hob'
   refine ⟨q1,q2,q3,fun hr=>?_⟩
   obtain ⟨cs,ty,r1,r2,r3,r4⟩:=q4 hr
   refine ⟨cs,ty,by rw [blk o l hx k1 ⟨_,hob',by simp⟩ hr];exact r1,r2,r3,fun j v hv=>?_⟩
   obtain ⟨s1,v',s2,s3⟩:=r4 j v hv
   exact ⟨s1,v',s2,s3.mono le⟩
 ·by_cases hx:o=x
  ·subst hx;exact (new l hl).2.2.2.2 es ck hob
  ·obtain ⟨k1,k2⟩:=old o l hx hl
   have hob':=k2 ▸ hob
   obtain ⟨q0,es',q1,q2,q3⟩:=hs.mp o l es ck k1 hob'
   refine ⟨q0,es',by rw [blk o l hx k1 ⟨_,hob',by simp⟩ (.inl q0)];exact q1,q2,fun i e he=>?_⟩
   obtain ⟨e',r1,r2,r3,r4⟩:=q3 i e he
   exact ⟨e',r1,r2,r3.mono le,r4⟩
 ·by_cases hx1:o₁=x <;> by_cases hx2:o₂=x
  ·rw [hx1,hx2]
  ·subst hx1
   exact absurd h7.symm (((new l₁ h1).2.2.1 h3 h5).2 o₂ l₂ hx2 (old o₂ l₂ hx2 h2).1 (al hx2 h2 h4) h6)
  ·subst hx2
   exact absurd h7 (((new l₂ h2).2.2.1 h4 h6).2 o₁ l₁ hx1 (old o₁ l₁ hx1 h1).1 (al hx1 h1 h3) h5)
  ·exact hs.inj o₁ o₂ l₁ l₂ (old o₁ l₁ hx1 h1).1 (old o₂ l₂ hx2 h2).1 (al hx1 h1 h3) (al hx2 h2 h4) h5 h6 h7
theorem HSim.phi_lt (hs:HSim E B M h w) {b x:Nat} {v:Value} (hv:M.phi b x=some v):b<w.heap.size:=by
 have h4:=hs.phi b x v hv
 unfold World.cell? at h4
 split at h4
 ·rename_i hh
  exact (Array.getElem?_eq_some_iff.1 hh).1
 ·cases h4
def Mem.put (M:Mem) (o:Nat) (l:Loc):Mem:=⟨fun x=>if x=o then some l else M.obj x,M.phi⟩
theorem Mem.put_self {o:Nat} {l:Loc}:(M.put o l).obj o=some l:=by simp [Mem.put]
theorem Mem.put_ne {o x:Nat} {l:Loc} (hx:x≠o):(M.put o l).obj x=M.obj x:=by simp [Mem.put,hx]
theorem Mem.put_le {o:Nat} {l:Loc} (hl:∀ l₀,M.obj o=some l₀→Grew l₀ l):M.Le (M.put o l) :=
 ⟨fun x l₀ hx=>by
  by_cases e:x=o
  ·subst e;exact ⟨l,Mem.put_self,hl l₀ hx⟩
  ·exact ⟨l₀,by rw [Mem.put_ne e];exact hx,.refl _⟩,fun _ _ _ hv=>hv⟩
theorem HSim.alloc (hs:HSim E B M h w) {c:List Value} {cs:Array Value} {t ty:TypeId} {g:Nat} (hl:c.length≤cs.size) (hreal:g=0∨cs.size≠0)
  (h1:∀ (j:Nat) v,c[j]?=some v→one v=true) (hc:∀ (j:Nat) v v',c[j]?=some v→cs[j]?=some v'→VRel M v v') (hty:ty=t:=by rfl) :
  let l:Loc:=⟨w.heap.size,cs.size,g,c.length⟩
  HSim E B (M.put h.length l) (h++[.cells t c g]) (w.alloc (.cells cs ty))∧∀ lo,lo≤h.length→Evo E lo M h w (M.put h.length l) (h++[.cells t c g]) (w.alloc (.cells cs ty)):=by
 intro l
 have hnone:M.obj h.length=none:=by
  cases hm:M.obj h.length with
  | none=>rfl
  | some l=>exact absurd (hs.lt _ _ hm) (by omega)
 have hold:∀ b,b<w.heap.size→(w.alloc (.cells cs ty)).heap[b]?=w.heap[b]?:=fun b hb=>Below.heap_alloc w _ b hb
 have hnew:(w.alloc (.cells cs ty)).heap[w.heap.size]?=some (.cells cs ty (0,0)):=heap_alloc_new w _
 have hsz:(w.alloc (.cells cs ty)).heap.size=w.heap.size+1:=Array.size_push _
 have hle:M.Le (M.put h.length l):=Mem.put_le fun l₀ h0=>by rw [hnone] at h0;cases h0
 constructor
 ·refine hs.change hle h.length (by rw [hsz];omega) (fun g hg=>hold g (Nat.lt_of_lt_of_le hg hs.base)) (by simp) (fun o l' ho hl'=>?_) (fun o l' ho hl' ha hr=>hold _ ((hs.dom o l' hl').2 hr).2) (fun b o v hv=>?_) (fun o l' ho hl' ha hr=>hs.sep o l' hl' ha hr) fun l' hl'=>?_
  ·rw [Mem.put_ne ho] at hl'
   exact ⟨hl',List.getElem?_append_left (hs.lt o l' hl')⟩
  ·rw [← hs.phi b o v hv]
   exact World.cell?_of_block (hold b (hs.phi_lt hv))
  ·rw [Mem.put_self] at hl';cases hl'
   refine ⟨by simp,fun _=>⟨hs.base,by rw [hsz];exact Nat.lt_succ_self _⟩,fun _ _=>⟨fun y=>?_,fun o l₂ ho hl₂ ha hr e=>?_⟩,fun t' c' g' hob=>?_,fun es ck hob=>by simp at hob⟩
   ·cases hy:(M.put h.length l).phi l.blk y with
    | none=>rfl
    | some v=>exact absurd (hs.phi_lt hy) (Nat.lt_irrefl _)
   ·have:=((hs.dom o l₂ hl₂).2 hr).2
    have e2:l.blk=w.heap.size:=rfl
    omega
   ·simp at hob
    obtain ⟨rfl,rfl,rfl⟩:=hob
    refine ⟨rfl,fun _=>rfl,fun hn=>absurd (show l.real from hreal) hn,fun _=>⟨cs,ty,by rw [← hty];exact hnew,rfl,by show 0+_≤cs.size;omega,fun j v hv=>?_⟩⟩
    have hj:j<cs.size:=Nat.lt_of_lt_of_le (List.getElem?_eq_some_iff.1 hv).1 hl
    exact ⟨h1 j v hv,cs[j],by simp [Loc.off,hj],(hc j v _ hv (by simp [hj])).mono hle⟩
 ·intro lo hlo
  refine ⟨rfl,rfl,rfl,fun _=>Nat.le_refl _,by rw [hsz];omega,fun b hb _=>hold b hb,by simp,fun o ho=>List.getElem?_append_left (by omega),fun o ho ⟨x,hx,hx'⟩=>⟨x,by rw [List.getElem?_append_left ho] at hx;exact hx,hx'⟩,
   fun o ho=>Mem.put_ne (by omega),hle,fun o ho hn=>by rw [Mem.put_ne (by omega)];exact hn,fun o l' ho hl' ha hr=>?_,fun b x v hv=>.inl hv⟩
  by_cases e:o=h.length
  ·subst e;rw [Mem.put_self] at hl';cases hl';exact .inl (Nat.le_refl _)
  ·rw [Mem.put_ne e] at hl'
   obtain ⟨x,hx,hx'⟩:=ha
   rw [List.getElem?_append_left (hs.lt o l' hl')] at hx
   exact .inr ⟨o,l',ho,hl',⟨x,hx,hx'⟩,hr,rfl⟩
theorem HSim.virt (hs:HSim E B M h w) {t:TypeId} {g:Nat} (hg:g≠0) :
  let l:Loc:=⟨0,0,g,0⟩
  HSim E B (M.put h.length l) (h++[.cells t [] g]) w∧∀ lo,lo≤h.length→Evo E lo M h w (M.put h.length l) (h++[.cells t [] g]) w:=by
 intro l
 have hnr:¬ l.real:=by simp [Loc.real,l,hg]
 have hnone:M.obj h.length=none:=by
  cases hm:M.obj h.length with
  | none=>rfl
  | some l=>exact absurd (hs.lt _ _ hm) (by omega)
 have hle:M.Le (M.put h.length l):=Mem.put_le fun l₀ h0=>by rw [hnone] at h0;cases h0
 constructor
 ·refine hs.change hle h.length (Nat.le_refl _) (fun _ _=>rfl) (by simp) (fun o l' ho hl'=>?_) (fun o l' ho hl' ha hr=>rfl) hs.phi (fun o l' ho hl' ha hr=>hs.sep o l' hl' ha hr) fun l' hl'=>?_
  ·rw [Mem.put_ne ho] at hl'
   exact ⟨hl',List.getElem?_append_left (hs.lt o l' hl')⟩
  ·rw [Mem.put_self] at hl';cases hl'
   refine ⟨by simp,fun hr=>absurd hr hnr,fun _ hr=>absurd hr hnr,fun t' c' g' hob=>?_,fun es ck hob=>by simp at hob⟩
   simp at hob
   obtain ⟨rfl,rfl,rfl⟩:=hob
   exact ⟨rfl,fun _=>rfl,fun _=>rfl,fun hr=>absurd hr hnr⟩
 ·intro lo hlo
  refine ⟨rfl,rfl,rfl,fun _=>Nat.le_refl _,Nat.le_refl _,fun b hb _=>rfl,by simp,fun o ho=>List.getElem?_append_left (by omega),fun o ho ⟨x,hx,hx'⟩=>⟨x,by rw [List.getElem?_append_left ho] at hx;exact hx,hx'⟩,
   fun o ho=>Mem.put_ne (by omega),hle,fun o ho hn=>by rw [Mem.put_ne (by omega)];exact hn,fun o l' ho hl' ha hr=>?_,fun b x v hv=>.inl hv⟩
  by_cases e:o=h.length
  ·subst e;rw [Mem.put_self] at hl';cases hl';exact absurd hr hnr
  ·rw [Mem.put_ne e] at hl'
   obtain ⟨x,hx,hx'⟩:=ha
   rw [List.getElem?_append_left (hs.lt o l' hl')] at hx
   exact .inr ⟨o,l',ho,hl',⟨x,hx,hx'⟩,hr,rfl⟩
theorem alive_set {t:TypeId} {c:List Value} {g:Nat} {o o':Nat} {t':TypeId} {c':List Value} {g':Nat} (ho:h[o]?=some (.cells t c g)):alive (h.set o (.cells t' c' g')) o'↔alive h o':=by
 have hlt:o<h.length:=(List.getElem?_eq_some_iff.1 ho).1
 unfold alive
 by_cases e:o'=o
 ·subst e;simp [List.getElem?_set_self hlt,ho]
 ·rw [List.getElem?_set_ne (Ne.symm e)]
theorem alive_dead {o o':Nat} (h4:alive (h.set o .dead) o'):o'≠o∧alive h o':=by
 obtain ⟨x,hx,hx'⟩:=h4
 by_cases e:o'=o
 ·subst e
  by_cases hlt:o'<h.length
  ·rw [List.getElem?_set_self hlt] at hx;cases hx;exact absurd rfl hx'
  ·rw [List.getElem?_eq_none (by simp;omega)] at hx;cases hx
 ·rw [List.getElem?_set_ne (Ne.symm e)] at hx
  exact ⟨e,x,hx,hx'⟩
theorem setRow_other {w:World} {g k:Nat} {cs:Array Value} (hk:k≠g):(w.setRow g cs).heap[k]?=w.heap[k]?:=by
 simp only [World.setRow,Array.getElem?_modify]
 rw [if_neg (fun e=>hk e.symm)]
theorem setRow_size {w:World} {g:Nat} {cs:Array Value}:(w.setRow g cs).heap.size=w.heap.size:=by simp [World.setRow]
theorem HSim.put (hs:HSim E B M h w) {o:Nat} {l:Loc} {t:TypeId} {c d:List Value} {g:Nat} {cs:Array Value} (hl:M.obj o=some l) (hob:h[o]?=some (.cells t c g)) (hr:l.real) (hlo:lo≤o)
  (hsz:cs.size=l.size) (hd:l.off+d.length≤l.size) (hgr:d.length=c.length∨(g≠0∧c.length<d.length)) (hv:∀ j v,d[j]?=some v→one v=true∧∃ v',cs[l.off+j]?=some v'∧VRel M v v') :
  let l':Loc:={ l with len:=if g=0 then l.len else d.length }
  HSim E B (M.put o l') (h.set o (.cells t d g)) (w.setRow l.blk cs)∧Evo E lo M h w (M.put o l') (h.set o (.cells t d g)) (w.setRow l.blk cs):=by
 intro l'
 obtain ⟨hg,hlen,_,hre⟩:=hs.obj o l t c g hl hob
 obtain ⟨cs0,ty,hb,hsz0,hoff,hc⟩:=hre hr
 have hlt:=hs.lt o l hl
 have hrl:l'.real↔l.real:=Iff.rfl
 have hle:M.Le (M.put o l'):=Mem.put_le fun l₀ h0=>by
  rw [hl] at h0;cases h0
  by_cases h0:g=0
  ·left;simp only [l',h0,if_true]
  ·rcases hgr with e | ⟨_,e⟩
   ·left;simp only [l',if_neg h0];rw [e,← hlen h0]
   ·right;refine ⟨by omega,rfl,?_⟩;simp only [l',if_neg h0];rw [hlen h0];exact e
 have hother:∀ k,k≠l.blk→(w.setRow l.blk cs).heap[k]?=w.heap[k]?:=fun k hk=>setRow_other hk
 have hhere:(w.setRow l.blk cs).heap[l.blk]?=some (.cells cs t (0,0)):=setRow_heap w l.blk cs0 _ _ (0,0) hb
 have hne:∀ o₂ l₂,o₂≠o→M.obj o₂=some l₂→alive h o₂→l₂.real→l₂.blk≠l.blk:=fun o₂ l₂ h1 h2 h3 h4 e=>h1 (hs.inj o₂ o l₂ l h2 hl h3 ⟨_,hob,by simp⟩ h4 hr e)
 constructor
 ·refine hs.change hle o (by rw [setRow_size];exact Nat.le_refl _) (fun g hg=>hother g (Nat.ne_of_lt (Nat.lt_of_lt_of_le hg ((hs.dom o l hl).2 hr).1))) (by simp) (fun o₂ l₂ ho hl₂=>?_) (fun o₂ l₂ h1 h2 h3 h4=>hother _ (hne o₂ l₂ h1 h2 h3 h4)) (fun b y v hv=>?_) (fun o₂ l₂ h1 h2 h3 h4=>hs.sep o₂ l₂ h2 h3 h4) fun l₂ hl₂=>?_
  ·rw [Mem.put_ne ho] at hl₂
   exact ⟨hl₂,List.getElem?_set_ne (Ne.symm ho)⟩
  ·have:b≠l.blk:=fun e=>by
    have:=hs.sep o l hl ⟨_,hob,by simp⟩ hr y
    rw [← e] at this
    have hv':M.phi b y=some v:=hv
    rw [this] at hv';cases hv'
   rw [← hs.phi b y v hv]
   exact World.cell?_of_block (hother b this)
  ·rw [Mem.put_self] at hl₂;cases hl₂
   refine ⟨by simpa using hlt,fun _=>⟨((hs.dom o l hl).2 hr).1,by rw [setRow_size];exact ((hs.dom o l hl).2 hr).2⟩,fun _ _=>⟨hs.sep o l hl ⟨_,hob,by simp⟩ hr,hne⟩,fun t' c' g' hob'=>?_,fun es ck hob'=>by rw [List.getElem?_set_self hlt] at hob';cases hob'⟩
   rw [List.getElem?_set_self hlt] at hob'
   cases hob'
   refine ⟨hg,fun h0=>by simp only [l',if_neg h0],fun hn=>absurd (hrl.2 hr) hn,fun _=>⟨cs,ty,hhere,hsz,hd,fun j v hj=>?_⟩⟩
   obtain ⟨k1,v',k2,k3⟩:=hv j v hj
   exact ⟨k1,v',k2,k3.mono hle⟩
 ·refine ⟨rfl,rfl,rfl,fun _=>Nat.le_refl _,by rw [setRow_size];exact Nat.le_refl _,fun b _ hb'=>hother b fun e=>hb' ⟨o,l,hlo,hl,⟨_,hob,by simp⟩,hr,e.symm⟩,by simp,fun o₂ ho=>List.getElem?_set_ne (by omega),
   fun o₂ _ ha=>(alive_set hob).1 ha,fun o₂ ho=>Mem.put_ne (by omega),hle,fun o₂ ho hn=>by
    have:o₂≠o:=fun e=>by rw [e,hl] at hn;cases hn
    rw [Mem.put_ne this];exact hn,fun o₂ l₂ ho hl₂ ha hr₂=>?_,fun b y v hv=>.inl hv⟩
  by_cases e:o₂=o
  ·subst e;rw [Mem.put_self] at hl₂;cases hl₂;exact .inr ⟨o₂,l,ho,hl,⟨_,hob,by simp⟩,hr,rfl⟩
  ·rw [Mem.put_ne e] at hl₂;exact .inr ⟨o₂,l₂,ho,hl₂,(alive_set hob).1 ha,hr₂,rfl⟩
theorem HSim.move (hs:HSim E B M h w) {o:Nat} {l:Loc} {t ty:TypeId} {c d:List Value} {g:Nat} {cs:Array Value} (hl:M.obj o=some l) (hob:h[o]?=some (.cells t c g)) (hg:g≠0) (hlo:lo≤o)
  (hd:d.length≤cs.size) (hcs:cs.size≠0) (hgr:c.length<d.length) (hv:∀ (j:Nat) v,d[j]?=some v→one v=true∧∃ v',cs[j]?=some v'∧VRel M v v') (hty:ty=t) :
  let l':Loc:=⟨w.heap.size,cs.size,g,d.length⟩
  HSim E B (M.put o l') (h.set o (.cells t d g)) (w.alloc (.cells cs ty))∧Evo E lo M h w (M.put o l') (h.set o (.cells t d g)) (w.alloc (.cells cs ty)):=by
 intro l'
 obtain ⟨hlg,hlen,_,hre⟩:=hs.obj o l t c g hl hob
 have hlt:=hs.lt o l hl
 have hrl:l'.real:=.inr hcs
 have hle:M.Le (M.put o l'):=Mem.put_le fun l₀ h0=>by
  rw [hl] at h0;cases h0
  exact .inr ⟨by omega,hlg.symm,by rw [hlen hg];exact hgr⟩
 have hold:∀ b,b<w.heap.size→(w.alloc (.cells cs ty)).heap[b]?=w.heap[b]?:=fun b hb=>Below.heap_alloc w _ b hb
 have hnew:(w.alloc (.cells cs ty)).heap[w.heap.size]?=some (.cells cs ty (0,0)):=heap_alloc_new w _
 have hsz:(w.alloc (.cells cs ty)).heap.size=w.heap.size+1:=Array.size_push _
 constructor
 ·refine hs.change hle o (by rw [hsz];omega) (fun g hg=>hold g (Nat.lt_of_lt_of_le hg hs.base)) (by simp) (fun o₂ l₂ ho hl₂=>?_) (fun o₂ l₂ h1 h2 h3 h4=>hold _ ((hs.dom o₂ l₂ h2).2 h4).2) (fun b y v hv=>?_) (fun o₂ l₂ h1 h2 h3 h4=>hs.sep o₂ l₂ h2 h3 h4) fun l₂ hl₂=>?_
  ·rw [Mem.put_ne ho] at hl₂
   exact ⟨hl₂,List.getElem?_set_ne (Ne.symm ho)⟩
  ·rw [← hs.phi b y v hv]
   exact World.cell?_of_block (hold b (hs.phi_lt hv))
  ·rw [Mem.put_self] at hl₂;cases hl₂
   refine ⟨by simpa using hlt,fun _=>⟨hs.base,by rw [hsz];exact Nat.lt_succ_self _⟩,fun _ _=>⟨fun y=>?_,fun o₂ l₂ ho hl₂ ha hr e=>?_⟩,fun t' c' g' hob'=>?_,fun es ck hob'=>by rw [List.getElem?_set_self hlt] at hob';cases hob'⟩
   ·cases hy:(M.put o l').phi l'.blk y with
    | none=>rfl
    | some v=>exact absurd (hs.phi_lt hy) (Nat.lt_irrefl _)
   ·have:=((hs.dom o₂ l₂ hl₂).2 hr).2
    have e2:l'.blk=w.heap.size:=rfl
    omega
   ·rw [List.getElem?_set_self hlt] at hob'
    cases hob'
    refine ⟨rfl,fun _=>rfl,fun hn=>absurd hrl hn,fun _=>⟨cs,ty,by rw [← hty];exact hnew,rfl,by show 0+_≤cs.size;omega,fun j v hj=>?_⟩⟩
    obtain ⟨k1,v',k2,k3⟩:=hv j v hj
    exact ⟨k1,v',by show cs[0+j]?=_;rw [Nat.zero_add];exact k2,k3.mono hle⟩
 ·refine ⟨rfl,rfl,rfl,fun _=>Nat.le_refl _,by rw [hsz];omega,fun b hb _=>hold b hb,by simp,fun o₂ ho=>List.getElem?_set_ne (by omega),
   fun o₂ _ ha=>(alive_set hob).1 ha,fun o₂ ho=>Mem.put_ne (by omega),hle,fun o₂ ho hn=>by
    have:o₂≠o:=fun e=>by rw [e,hl] at hn;cases hn
    rw [Mem.put_ne this];exact hn,fun o₂ l₂ ho hl₂ ha hr₂=>?_,fun b y v hv=>.inl hv⟩
  by_cases e:o₂=o
  ·subst e;rw [Mem.put_self] at hl₂;cases hl₂;exact .inl (Nat.le_refl _)
  ·rw [Mem.put_ne e] at hl₂;exact .inr ⟨o₂,l₂,ho,hl₂,(alive_set hob).1 ha,hr₂,rfl⟩
def Mem.fix (M:Mem) (b:Nat) (cs:Array Value):Mem:=⟨M.obj,fun b' x=>if b'=b then cs[x]? else M.phi b' x⟩
theorem Mem.fix_le {b:Nat} {cs:Array Value} (hn:∀ x,M.phi b x=none):M.Le (M.fix b cs) :=
 ⟨fun _ l hl=>⟨l,hl,.refl l⟩,fun b' x v hv=>by
  have:b'≠b:=fun e=>by rw [e,hn x] at hv;cases hv
  simp only [Mem.fix,if_neg this];exact hv⟩
theorem HSim.kill (hs:HSim E B M h w) {o:Nat} (hlo:lo≤o):HSim E B M (h.set o .dead) w∧Evo E lo M h w M (h.set o .dead) w:=by
 constructor
 ·refine hs.change (.refl M) o (Nat.le_refl _) (fun _ _=>rfl) (by simp) (fun o₂ l₂ ho hl₂=>⟨hl₂,List.getElem?_set_ne (Ne.symm ho)⟩) (fun _ _ _ _ _ _=>rfl) hs.phi (fun o₂ l₂ h1 h2 h3 h4=>hs.sep o₂ l₂ h2 h3 h4) fun l₂ hl₂=>?_
  have hlt:=hs.lt _ _ hl₂
  refine ⟨by simpa using hlt,(hs.dom _ _ hl₂).2,fun ha=>absurd rfl (alive_dead ha).1,fun t' c' g' hob'=>?_,fun es ck hob'=>?_⟩ <;> (rw [List.getElem?_set_self hlt] at hob';cases hob')
 ·exact ⟨rfl,rfl,rfl,fun _=>Nat.le_refl _,Nat.le_refl _,fun _ _ _=>rfl,by simp,fun o₂ ho=>List.getElem?_set_ne (by omega),fun o₂ _ ha=>(alive_dead ha).2,fun _ _=>rfl,.refl M,fun _ _ hn=>hn,fun o₂ l₂ ho hl₂ ha hr=>.inr ⟨o₂,l₂,ho,hl₂,(alive_dead ha).2,hr,rfl⟩,fun _ _ _ hv=>.inl hv⟩
theorem HSim.freeze (hs:HSim E B M h w) {o:Nat} {l:Loc} {x:AObj} {cs:Array Value} {ty:TypeId} (hl:M.obj o=some l) (hob:h[o]?=some x) (hx:x≠.dead) (hr:l.real) (hlo:lo≤o) (hb:w.heap[l.blk]?=some (.cells cs ty (0,0))) :
  HSim E B (M.fix l.blk cs) (h.set o .dead) w∧Evo E lo M h w (M.fix l.blk cs) (h.set o .dead) w:=by
 have ha:alive h o:=⟨x,hob,hx⟩
 have hle:M.Le (M.fix l.blk cs):=Mem.fix_le (hs.sep o l hl ha hr)
 constructor
 ·refine hs.change hle o (Nat.le_refl _) (fun _ _=>rfl) (by simp) (fun o₂ l₂ ho hl₂=>⟨hl₂,List.getElem?_set_ne (Ne.symm ho)⟩) (fun _ _ _ _ _ _=>rfl) (fun b y v hv=>?_) (fun o₂ l₂ h1 h2 h3 h4 y=>?_) fun l₂ hl₂=>?_
  ·simp only [Mem.fix] at hv
   split at hv
   ·rename_i e;subst e
    simpa [World.cell?,hb] using hv
   ·exact hs.phi b y v hv
  ·have:l₂.blk≠l.blk:=fun e=>h1 (hs.inj o₂ o l₂ l h2 hl h3 ha h4 hr e)
   simp only [Mem.fix,if_neg this]
   exact hs.sep o₂ l₂ h2 h3 h4 y
  ·have hlt:=hs.lt _ _ hl
   refine ⟨by simpa using hlt,(hs.dom _ _ hl₂).2,fun ha=>absurd rfl (alive_dead ha).1,fun t' c' g' hob'=>?_,fun es ck hob'=>?_⟩ <;> (rw [List.getElem?_set_self hlt] at hob';cases hob')
 ·refine ⟨rfl,rfl,rfl,fun _=>Nat.le_refl _,Nat.le_refl _,fun _ _ _=>rfl,by simp,fun o₂ ho=>List.getElem?_set_ne (by omega),fun o₂ _ ha=>(alive_dead ha).2,fun _ _=>rfl,hle,fun _ _ hn=>hn,fun o₂ l₂ ho hl₂ ha hr=>.inr ⟨o₂,l₂,ho,hl₂,(alive_dead ha).2,hr,rfl⟩,fun b y v hv=>?_⟩
  simp only [Mem.fix] at hv
  split at hv
  ·rename_i e;subst e
   exact .inr (.inr ⟨o,l,hlo,hl,ha,hr,rfl⟩)
  ·exact .inl hv
theorem HSim.tree (hs:HSim E B M h w) {cs:Array Value} {ty:TypeId} (_hlo:lo≤h.length) :
  HSim E B (M.fix w.heap.size cs) h (w.alloc (.cells cs ty))∧Evo E lo M h w (M.fix w.heap.size cs) h (w.alloc (.cells cs ty)):=by
 have hle:M.Le (M.fix w.heap.size cs):=Mem.fix_le fun x=>by
  cases hy:M.phi w.heap.size x with
  | none=>rfl
  | some v=>exact absurd (hs.phi_lt hy) (Nat.lt_irrefl _)
 have hold:∀ b,b<w.heap.size→(w.alloc (.cells cs ty)).heap[b]?=w.heap[b]?:=fun b hb=>Below.heap_alloc w _ b hb
 have hnew:(w.alloc (.cells cs ty)).heap[w.heap.size]?=some (.cells cs ty (0,0)):=heap_alloc_new w _
 have hsz:(w.alloc (.cells cs ty)).heap.size=w.heap.size+1:=Array.size_push _
 constructor
 ·refine hs.change hle h.length (by rw [hsz];omega) (fun g hg=>hold g (Nat.lt_of_lt_of_le hg hs.base)) (Nat.le_refl _) (fun o₂ l₂ ho hl₂=>⟨hl₂,rfl⟩) (fun o₂ l₂ h1 h2 h3 h4=>hold _ ((hs.dom o₂ l₂ h2).2 h4).2) (fun b y v hv=>?_) (fun o₂ l₂ h1 h2 h3 h4 y=>?_) fun l₂ hl₂=>absurd (hs.lt _ _ hl₂) (Nat.lt_irrefl _)
  ·simp only [Mem.fix] at hv
   split at hv
   ·rename_i e;subst e
    unfold World.cell?;rw [hnew];exact hv
   ·rw [← hs.phi b y v hv]
    exact World.cell?_of_block (hold b (hs.phi_lt hv))
  ·have:l₂.blk≠w.heap.size:=by have:=((hs.dom o₂ l₂ h2).2 h4).2;omega
   simp only [Mem.fix,if_neg this]
   exact hs.sep o₂ l₂ h2 h3 h4 y
 ·refine ⟨rfl,rfl,rfl,fun _=>Nat.le_refl _,by rw [hsz];omega,fun b hb _=>hold b hb,Nat.le_refl _,fun _ _=>rfl,fun _ _ ha=>ha,fun _ _=>rfl,hle,fun _ _ hn=>hn,fun o₂ l₂ ho hl₂ ha hr=>.inr ⟨o₂,l₂,ho,hl₂,ha,hr,rfl⟩,fun b y v hv=>?_⟩
  simp only [Mem.fix] at hv
  split at hv
  ·rename_i e;subst e
   exact .inr (.inl (Nat.le_refl _))
  ·exact .inl hv
end
end Go.Proofs.YtplebjehcgcdeaaGreatDoor.Bm
