/-
 Rows of records of 'k' cells: in the heap and as trees. Conditions: none.
-/
import Derived.Test.YtplebjehcgcdeaaGreatDoorQU15
import Derived.Test.YtplebjehcgcdeaaGreatDoorQU16
namespace Go.Proofs.YtplebjehcgcdeaaGreatDoor.Bm
open Go Go.RowKit
def plainA (a:Addr):Bool:=a.off == 0 && a.spot == none
def cpcG (T:TypeId):List Value→Heap→Nat→Res
 | [.pointer (some a)],h,lo=>match h[a.block]? with
  | some (.cells t [p,b] 0)=>if t == T && plainA a && decide (lo≤a.block) then (match p with
    | .pointer none=>some (.tuple #[],h.set a.block (.cells t [.pointer (some a),b] 0))
    | .pointer (some a2)=>if a2.block == a.block && plainA a2 then some (.tuple #[],h) else none
    | _=>none) else none
  | _=>none
 | _,_,_=>none
def byteOf:Value→Option UInt8
 | .int .u8 n=>if n=((UInt8.ofNat n.toNat).toNat:Int) then some (UInt8.ofNat n.toNat) else none
 | _=>none
def bytesL:List Value→Option (List UInt8)
 | []=>some []
 | v :: l=>(byteOf v).bind fun b=>(bytesL l).map (b :: ·)
def bstG (T U:TypeId):List Value→Heap→Nat→Res
 | [.pointer (some a)],h,lo=>match h[a.block]? with
  | some (.cells t [_,.slice (some r) n _c] 0)=>if t == T && plainA a && n != 0 && decide (n≤9223372036854775807) && r.off == 0 && decide (lo≤r.block) then (match h[r.block]? with
    | some (.cells u _ (_+1))=>if u == U then (rdN h r n).bind fun cs=>(bytesL cs).map fun l=>(.string ⟨l.toArray⟩,h.set r.block .dead) else none
    | _=>none) else none
  | _=>none
 | _,_,_=>none
abbrev Prb:=Int × Int × Int × Int
def prV (p:Prb):List Value:=[.int .i64 p.1,.int .i64 p.2.1,.int .i64 p.2.2.1,.int .i64 p.2.2.2]
def prD:List Value→Option (List Prb)
 | []=>some []
 | .int .i64 a :: .int .i64 b :: .int .i64 c :: .int .i64 d :: r=>(prD r).map ((a,b,c,d) :: ·)
 | _=>none
def tabP:List MapEntry→Option (List ((Int × Int) × Int))
 | []=>some []
 | e :: es=>match e.key,e.val with
  | .agg ⟨[.int .i64 a,.int .i64 b]⟩,.int .i64 n=>(tabP es).map (((a,b),n) :: ·)
  | _,_=>none
def areaAt:List ((Int × Int) × Int)→Int→Int→Int
 | [],_,_=>0
 | e :: es,l,i=>if e.1.1=l∧e.1.2=i then e.2 else areaAt es l i
def sizeP (es:List ((Int × Int) × Int)) (p:Prb):Int:=IntKind.i64.wrap (p.2.2.1 * areaAt es p.1 p.2.2.2)
def cmpZ (a b:Int):Int:=if a<b then -1 else if b<a then 1 else 0
def lexZ:List Int→List Int→Int
 | a :: l,b :: m=>if cmpZ a b=0 then lexZ l m else cmpZ a b
 | _,_=>0
def keyP (es:List ((Int × Int) × Int)) (p:Prb):List Int:=[sizeP es p,p.2.2.1,p.1,p.2.1,p.2.2.2]
def cmpP (es:List ((Int × Int) × Int)) (a b:Prb):Int:=lexZ (keyP es a) (keyP es b)
def ltP (es:List ((Int × Int) × Int)) (a b:Prb):Bool:=decide (cmpP es a b<0)
def insP (es:List ((Int × Int) × Int)) (x:Prb):List Prb→List Prb
 | []=>[x]
 | y :: l=>if ltP es y x then y :: insP es x l else x :: y :: l
def srtP (es:List ((Int × Int) × Int)):List Prb→List Prb
 | []=>[]
 | x :: l=>insP es x (srtP es l)
def prbF (q1:FuncId) (x:Value) (h:Heap) (c:List Value):Option (List Value) :=
 match x with
 | .pointer (some p)=>match h[p.block]? with
  | some (.cells _ [.func (.func f) ⟨[]⟩ ⟨[.pointer (some a)]⟩] 0)=>if f=q1∧plainA p=true∧plainA a=true then (match h[a.block]? with
    | some (.cells _ [.map (some m)] 0)=>match h[m]? with
     | some (.map es _)=>(tabP es).bind fun T=>(prD c).map fun l=>(srtP T l).flatMap prV
     | _=>none
    | _=>none) else none
  | _=>none
 | _=>none
def inP (q q1:FuncId):List Value→Heap→Nat→Res:=fun args h lo =>
 match args with
 | [.slice (some a) n c,.func (.func p) ⟨[]⟩ ⟨[x]⟩]=>if p=q∧n≤c then if n=0 then some (.tuple #[],h) else inCR 4 (prbF q1 x h) h lo a n h[a.block]? else none
 | [.slice none 0 0,.func (.func p) ⟨[]⟩ ⟨[_]⟩]=>if p=q then some (.tuple #[],h) else none
 | _=>none
theorem inP_keep {q q1:FuncId} {args:List Value} {h h':Heap} {lo:Nat} {v:Value} (hr:inP q q1 args h lo=some (v,h')):Keep lo h h':=by
 unfold inP at hr
 split at hr
 ·split at hr
  ·split at hr
   ·cases hr;exact .refl _ _
   ·unfold inCR at hr
    split at hr
    ·rename_i hob
     simp only [Option.bind_eq_some_iff,Option.ite_none_right_eq_some,Option.some.injEq,Prod.mk.injEq] at hr
     obtain ⟨zs,_,⟨h1,_⟩,_,rfl⟩:=hr
     exact set_keep' hob h1
    ·cases hr
  ·cases hr
 ·split at hr
  ·cases hr;exact .refl _ _
  ·cases hr
 ·cases hr
def emptyT:List Value→Bool
 | [.func (.yield k) ⟨[]⟩ ⟨[]⟩]=>decide (k<2)
 | _=>false
def cloG (E₀:Env) (f:FuncId):List Value→Heap→Nat→Res:=fun args h lo=>if emptyT args then some (lst false [],h) else evF E₀ 1 f args h lo
structure CloCon (P:Program) (f:FuncId):Prop where
 dfd:∃ fn,P.funcs[f]?=some fn∧fn.body.isSome=true
 zero:∀ (a:Addr) (c:Nat) (w:World),Calls P f #[.slice (some a) 0 c] w fun e w'=>∃ a' c',e=.returned (.slice (some a') 0 c')∧Below w.heap.size w w'
 nil:∀ (w:World),Calls P f #[.slice none 0 0] w fun e w'=>e=.returned (.slice none 0 0)∧w'=w
section
variable {E E₀:Env} {B lo:Nat} {M:Mem} {h h':Heap} {w:World}
theorem HSim.env {E':Env} (hg:E'.glob=E.glob) (hn:E'.gany=E.gany) (hn2:E'.tabs=E.tabs) (hs:HSim E B M h w):HSim E' B M h w :=
 ⟨fun g v h=>hs.glob g v (by rw [← hg];exact h),hs.phi,hs.sep,hs.base,hs.dom,hs.obj,hs.mp,hs.inj,fun g hg=>hs.gany g (by rw [← hn];exact hg),fun g cs hg=>hs.tabs g cs (by rw [← hn2];exact hg)⟩
theorem Evo.env {E':Env} {M':Mem} {w':World} (hd:E'.dm=true→E.dm=true) (e:Evo E lo M h w M' h' w'):Evo E' lo M h w M' h' w' :=
 ⟨e.os,e.tape,e.output,fun q=>e.drawn (hd q),e.size,e.block,e.len,e.keep,e.dead,e.ext,e.le,e.non,e.own,e.fro⟩
theorem lnil_rel (k:Nat) (hk:k<2):VRel M (.func (.yield k) ⟨[]⟩ ⟨[]⟩) (.slice none 0 0):=.tree _ _ _ _ (.lnil k hk)
theorem lzero_rel (a:Addr) (c:Nat):VRel M (lst false []) (.slice (some a) 0 c) :=
 .tree _ _ _ _ (.lst 0 (by decide) [] a c 0 (fun _ _=>undef) (Nat.zero_le _) (fun h=>absurd h (by decide)) (.inl rfl) (fun i v hv=>by simp at hv) fun i v hv=>by simp at hv)
theorem cloG_sound (hdm:E.dm=false) (hP:OkProg E.P) (hp:E₀.P=E.P) (hg:E₀.glob=E.glob) (hn:E₀.gany=E.gany) (hn2:E₀.tabs=E.tabs) (h0:∀ f,E₀.orc f=none) {f:FuncId} (hC:CloCon E.P f) {args:List Value} {v:Value} (hr:cloG E₀ f args h lo=some (v,h')) (hlo:lo≤h.length) (args':Array Value) (hs:HSim E B M h w) (hv:VRels M args args'.toList) :
  Calls E.P f args' w fun e w'=>∃ v',e=.returned v'∧Out E B lo M h w v h' v' w':=by
 unfold cloG at hr
 by_cases he:emptyT args=true
 ·rw [if_pos he] at hr
  simp only [Option.some.injEq,Prod.mk.injEq] at hr
  obtain ⟨rfl,rfl⟩:=hr
  unfold emptyT at he
  split at he
  case h_2=>cases he
  rename_i k
  have hk:k<2:=of_decide_eq_true he
  obtain ⟨x,hx,hr⟩:=hv.get (i:=0) rfl
  have hl:args'.toList=[x]:=by
   have h1:=hv.1
   match hm:args'.toList,h1 with
   | [y],_=>rw [hm] at hx;simp at hx;rw [hx]
  have ha:args'=#[x]:=by rw [← Array.toList_inj];simpa using hl
  subst ha
  rcases hr.treeSome.lstSome hk with ⟨hx2,_⟩ | ⟨a',cap',s0,g,hx2,_⟩
  ·rw [hx2]
   refine (hC.nil w).mono ?_
   rintro e w' ⟨rfl,rfl⟩
   exact ⟨_,rfl,M,lnil_rel 0 (by decide),hs,Evo.refl hs lo⟩
  ·rw [hx2]
   refine (hC.zero a' cap' w).mono ?_
   rintro e w' ⟨a,c,rfl,hb⟩
   have p:Past E w w':=⟨hb.os,hb.tape,hb.output,(fun q=>by rw [hdm] at q;cases q),hb.size,hb.block⟩
   refine ⟨_,rfl,⟨M.obj,M.phi⟩,lzero_rel a c,hs.past p (Ψ:=M.phi) (fun _ _ _ h=>h) (fun b x v hv=>?_) (fun _ _ _=>rfl),Evo.past hs p (Ψ:=M.phi) (fun _ _ _ h=>h) (fun _ _ _=>rfl) lo⟩
   have h0:=hs.phi b x v hv
   rw [← h0];exact World.cell?_of_block (p.block b (cell_lt h0))
 ·rw [if_neg he] at hr
  have hP0:OkProg E₀.P:=by rw [hp];exact hP
  have key:=(evF_sound hP0 (noOrc h0) 1).snd f args h lo v h' hr hlo B M w args' (hs.env hg hn hn2) hv
  rw [hp] at key
  refine key.mono ?_
  rintro e w' ⟨v',rfl,M',k1,k2,k3⟩
  exact ⟨v',rfl,M',k1,k2.env hg.symm hn.symm hn2.symm,k3.env (fun q=>by rw [hdm] at q;cases q)⟩
theorem cloG_keep (h0:∀ f,E₀.orc f=none) {f:FuncId} {args:List Value} {v:Value} (hr:cloG E₀ f args h lo=some (v,h')) (hlo:lo≤h.length):Keep lo h h':=by
 unfold cloG at hr
 by_cases he:emptyT args=true
 ·rw [if_pos he] at hr
  simp only [Option.some.injEq,Prod.mk.injEq] at hr
  obtain ⟨_,rfl⟩:=hr
  exact Keep.refl _ _
 ·rw [if_neg he] at hr
  exact evF_keep (fun f g hg=>by rw [h0] at hg;cases hg) 1 _ _ _ _ _ _ hr hlo
end
end Go.Proofs.YtplebjehcgcdeaaGreatDoor.Bm
namespace Go.Proofs.YtplebjehcgcdeaaGreatDoor.Bm
open Go Go.RowKit
theorem LL_for {k:List Nat × List Nat} {b:Body} {σ₀:Slots} {h₀:Heap} {β γ:Type} (l:List β) (c₀:γ) (up:Nat→γ→List (Nat × Value)) (H:Nat→γ→Heap)
  (R:Nat→List β→γ→Exit × List (Nat × Value) × Heap) (I:Nat→γ→Prop) (hb:l.length≤9223372036854775807)
  (hI:I 0 c₀) (e0:sets (up 0 c₀) (forget k.1 σ₀)=forget k.1 σ₀) (e1:H 0 c₀=h₀)
  (stop:∀ (nx:Body) i c,i=l.length→I i c→lopK k.1 k.2 nx (H i c).length (b (forget k.1 (sets (up i c) (forget k.1 σ₀))) (H i c))=fin (forget k.1 σ₀) (R i [] c))
  (step:∀ (nx:Body) i v rest c (hi:i<l.length),l[i]=v→l.drop i=v :: rest→IntKind.i64.wrap ((i:Int)+1)=(i:Int)+1→I i c →
   (∀ c',I (i+1) c'→nx (sets (up (i+1) c') (forget k.1 σ₀)) (H (i+1) c')=fin (forget k.1 σ₀) (R (i+1) rest c')) →
   lopK k.1 k.2 nx (H i c).length (b (forget k.1 (sets (up i c) (forget k.1 σ₀))) (H i c))=fin (forget k.1 σ₀) (R i (v :: rest) c)) :
  LL k b σ₀ h₀=fin (forget k.1 σ₀) (R 0 l c₀):=by
 have key:=LL_rec (k:=k) (b:=b) (σ₀:=σ₀) (h₀:=h₀) (α:=Nat × γ) (0,c₀) (fun a=>up a.1 a.2) (fun a=>H a.1 a.2) (fun a=>R a.1 (l.drop a.1) a.2) (fun a=>a.1≤l.length∧I a.1 a.2) (fun a=>l.length-a.1)
  ⟨Nat.zero_le _,hI⟩ e0 e1 fun nx a ⟨h1,h2⟩ ih=>?_
 ·simpa using key
 ·obtain ⟨i,c⟩:=a
  simp only at h1 h2 ih ⊢
  by_cases hi:i<l.length
  ·have hd:l.drop i=l[i] :: l.drop (i+1):=List.drop_eq_getElem_cons hi
   rw [hd]
   refine step nx i l[i] (l.drop (i+1)) c hi rfl hd (wrap64 (by omega) (by omega)) h2 fun c' hc'=>?_
   exact ih (i+1,c') (by simp;omega) ⟨hi,hc'⟩
  ·have:i=l.length:=by omega
   rw [List.drop_eq_nil_of_le (by omega)]
   exact stop nx i c this h2
def blk (a0 a1 a2 a3 a4 a5 a6 a7 a8 a9 a10 a11 a12 a13 a14 a15:Value) (l:Slots):Slots:=a0 :: a1 :: a2 :: a3 :: a4 :: a5 :: a6 :: a7 :: a8 :: a9 :: a10 :: a11 :: a12 :: a13 :: a14 :: a15 :: l
section
variable {a0 a1 a2 a3 a4 a5 a6 a7 a8 a9 a10 a11 a12 a13 a14 a15 v:Value} {l:Slots} {n:Nat}
@[simp] theorem blk_slot (n:Nat):slot (blk a0 a1 a2 a3 a4 a5 a6 a7 a8 a9 a10 a11 a12 a13 a14 a15 l) (n+16)=slot l n:=rfl
@[simp] theorem blk_set (n:Nat):setS (blk a0 a1 a2 a3 a4 a5 a6 a7 a8 a9 a10 a11 a12 a13 a14 a15 l) (n+16) v=blk a0 a1 a2 a3 a4 a5 a6 a7 a8 a9 a10 a11 a12 a13 a14 a15 (setS l n v):=rfl
@[simp] theorem blk_slot0:slot (blk a0 a1 a2 a3 a4 a5 a6 a7 a8 a9 a10 a11 a12 a13 a14 a15 l) 0=a0:=rfl
@[simp] theorem blk_set0:setS (blk a0 a1 a2 a3 a4 a5 a6 a7 a8 a9 a10 a11 a12 a13 a14 a15 l) 0 v=blk v a1 a2 a3 a4 a5 a6 a7 a8 a9 a10 a11 a12 a13 a14 a15 l:=rfl
@[simp] theorem blk_slot1:slot (blk a0 a1 a2 a3 a4 a5 a6 a7 a8 a9 a10 a11 a12 a13 a14 a15 l) 1=a1:=rfl
@[simp] theorem blk_set1:setS (blk a0 a1 a2 a3 a4 a5 a6 a7 a8 a9 a10 a11 a12 a13 a14 a15 l) 1 v=blk a0 v a2 a3 a4 a5 a6 a7 a8 a9 a10 a11 a12 a13 a14 a15 l:=rfl
@[simp] theorem blk_slot2:slot (blk a0 a1 a2 a3 a4 a5 a6 a7 a8 a9 a10 a11 a12 a13 a14 a15 l) 2=a2:=rfl
@[simp] theorem blk_set2:setS (blk a0 a1 a2 a3 a4 a5 a6 a7 a8 a9 a10 a11 a12 a13 a14 a15 l) 2 v=blk a0 a1 v a3 a4 a5 a6 a7 a8 a9 a10 a11 a12 a13 a14 a15 l:=rfl
@[simp] theorem blk_slot3:slot (blk a0 a1 a2 a3 a4 a5 a6 a7 a8 a9 a10 a11 a12 a13 a14 a15 l) 3=a3:=rfl
@[simp] theorem blk_set3:setS (blk a0 a1 a2 a3 a4 a5 a6 a7 a8 a9 a10 a11 a12 a13 a14 a15 l) 3 v=blk a0 a1 a2 v a4 a5 a6 a7 a8 a9 a10 a11 a12 a13 a14 a15 l:=rfl
@[simp] theorem blk_slot4:slot (blk a0 a1 a2 a3 a4 a5 a6 a7 a8 a9 a10 a11 a12 a13 a14 a15 l) 4=a4:=rfl
@[simp] theorem blk_set4:setS (blk a0 a1 a2 a3 a4 a5 a6 a7 a8 a9 a10 a11 a12 a13 a14 a15 l) 4 v=blk a0 a1 a2 a3 v a5 a6 a7 a8 a9 a10 a11 a12 a13 a14 a15 l:=rfl
@[simp] theorem blk_slot5:slot (blk a0 a1 a2 a3 a4 a5 a6 a7 a8 a9 a10 a11 a12 a13 a14 a15 l) 5=a5:=rfl
@[simp] theorem blk_set5:setS (blk a0 a1 a2 a3 a4 a5 a6 a7 a8 a9 a10 a11 a12 a13 a14 a15 l) 5 v=blk a0 a1 a2 a3 a4 v a6 a7 a8 a9 a10 a11 a12 a13 a14 a15 l:=rfl
@[simp] theorem blk_slot6:slot (blk a0 a1 a2 a3 a4 a5 a6 a7 a8 a9 a10 a11 a12 a13 a14 a15 l) 6=a6:=rfl
@[simp] theorem blk_set6:setS (blk a0 a1 a2 a3 a4 a5 a6 a7 a8 a9 a10 a11 a12 a13 a14 a15 l) 6 v=blk a0 a1 a2 a3 a4 a5 v a7 a8 a9 a10 a11 a12 a13 a14 a15 l:=rfl
@[simp] theorem blk_slot7:slot (blk a0 a1 a2 a3 a4 a5 a6 a7 a8 a9 a10 a11 a12 a13 a14 a15 l) 7=a7:=rfl
@[simp] theorem blk_set7:setS (blk a0 a1 a2 a3 a4 a5 a6 a7 a8 a9 a10 a11 a12 a13 a14 a15 l) 7 v=blk a0 a1 a2 a3 a4 a5 a6 v a8 a9 a10 a11 a12 a13 a14 a15 l:=rfl
@[simp] theorem blk_slot8:slot (blk a0 a1 a2 a3 a4 a5 a6 a7 a8 a9 a10 a11 a12 a13 a14 a15 l) 8=a8:=rfl
@[simp] theorem blk_set8:setS (blk a0 a1 a2 a3 a4 a5 a6 a7 a8 a9 a10 a11 a12 a13 a14 a15 l) 8 v=blk a0 a1 a2 a3 a4 a5 a6 a7 v a9 a10 a11 a12 a13 a14 a15 l:=rfl
@[simp] theorem blk_slot9:slot (blk a0 a1 a2 a3 a4 a5 a6 a7 a8 a9 a10 a11 a12 a13 a14 a15 l) 9=a9:=rfl
@[simp] theorem blk_set9:setS (blk a0 a1 a2 a3 a4 a5 a6 a7 a8 a9 a10 a11 a12 a13 a14 a15 l) 9 v=blk a0 a1 a2 a3 a4 a5 a6 a7 a8 v a10 a11 a12 a13 a14 a15 l:=rfl
@[simp] theorem blk_slot10:slot (blk a0 a1 a2 a3 a4 a5 a6 a7 a8 a9 a10 a11 a12 a13 a14 a15 l) 10=a10:=rfl
@[simp] theorem blk_set10:setS (blk a0 a1 a2 a3 a4 a5 a6 a7 a8 a9 a10 a11 a12 a13 a14 a15 l) 10 v=blk a0 a1 a2 a3 a4 a5 a6 a7 a8 a9 v a11 a12 a13 a14 a15 l:=rfl
@[simp] theorem blk_slot11:slot (blk a0 a1 a2 a3 a4 a5 a6 a7 a8 a9 a10 a11 a12 a13 a14 a15 l) 11=a11:=rfl
@[simp] theorem blk_set11:setS (blk a0 a1 a2 a3 a4 a5 a6 a7 a8 a9 a10 a11 a12 a13 a14 a15 l) 11 v=blk a0 a1 a2 a3 a4 a5 a6 a7 a8 a9 a10 v a12 a13 a14 a15 l:=rfl
@[simp] theorem blk_slot12:slot (blk a0 a1 a2 a3 a4 a5 a6 a7 a8 a9 a10 a11 a12 a13 a14 a15 l) 12=a12:=rfl
@[simp] theorem blk_set12:setS (blk a0 a1 a2 a3 a4 a5 a6 a7 a8 a9 a10 a11 a12 a13 a14 a15 l) 12 v=blk a0 a1 a2 a3 a4 a5 a6 a7 a8 a9 a10 a11 v a13 a14 a15 l:=rfl
@[simp] theorem blk_slot13:slot (blk a0 a1 a2 a3 a4 a5 a6 a7 a8 a9 a10 a11 a12 a13 a14 a15 l) 13=a13:=rfl
@[simp] theorem blk_set13:setS (blk a0 a1 a2 a3 a4 a5 a6 a7 a8 a9 a10 a11 a12 a13 a14 a15 l) 13 v=blk a0 a1 a2 a3 a4 a5 a6 a7 a8 a9 a10 a11 a12 v a14 a15 l:=rfl
@[simp] theorem blk_slot14:slot (blk a0 a1 a2 a3 a4 a5 a6 a7 a8 a9 a10 a11 a12 a13 a14 a15 l) 14=a14:=rfl
@[simp] theorem blk_set14:setS (blk a0 a1 a2 a3 a4 a5 a6 a7 a8 a9 a10 a11 a12 a13 a14 a15 l) 14 v=blk a0 a1 a2 a3 a4 a5 a6 a7 a8 a9 a10 a11 a12 a13 v a15 l:=rfl
@[simp] theorem blk_slot15:slot (blk a0 a1 a2 a3 a4 a5 a6 a7 a8 a9 a10 a11 a12 a13 a14 a15 l) 15=a15:=rfl
@[simp] theorem blk_set15:setS (blk a0 a1 a2 a3 a4 a5 a6 a7 a8 a9 a10 a11 a12 a13 a14 a15 l) 15 v=blk a0 a1 a2 a3 a4 a5 a6 a7 a8 a9 a10 a11 a12 a13 a14 v l:=rfl
theorem blk_all {p:Value→Bool}:(blk a0 a1 a2 a3 a4 a5 a6 a7 a8 a9 a10 a11 a12 a13 a14 a15 l).all p=(p a0 && p a1 && p a2 && p a3 && p a4 && p a5 && p a6 && p a7 && p a8 && p a9 && p a10 && p a11 && p a12 && p a13 && p a14 && p a15 && l.all p):=by
 unfold blk;simp only [List.all_cons,Bool.and_assoc]
@[simp] theorem blk_below {d:Nat}:(blk a0 a1 a2 a3 a4 a5 a6 a7 a8 a9 a10 a11 a12 a13 a14 a15 l).all (below d n)=(below d n a0 && below d n a1 && below d n a2 && below d n a3 && below d n a4 && below d n a5 && below d n a6 && below d n a7 && below d n a8 && below d n a9 && below d n a10 && below d n a11 && below d n a12 && below d n a13 && below d n a14 && below d n a15 && l.all (below d n)):=blk_all
end
section
variable {P:Program} {lo s:Nat} {σ:Slots} {h:Heap} {t:TypeId}
def newK (P:Program) (h:Heap) (σ:Slots) (s:Nat) (t:TypeId) (v:Value):Option (Slots × Heap):=match v with
  | .slice none 0 0=>(szOf P t).bind fun n=>if n=0 then none else some (setS σ s (.slice (some ⟨h.length,0,some 0⟩) 0 0),h++[.cells t [] n])
  | .func (.yield 1) ⟨[]⟩ ⟨[]⟩=>(szOf P t).bind fun n=>if n=0 then none else some (setS σ s (.slice (some ⟨h.length,0,some 0⟩) 0 0),h++[.cells t [] n])
  | _=>some (σ,h)
theorem prep_new:prep1 P lo σ h (.new s t)=newK P h σ s t (slot σ s):=by
 unfold prep1 newK
 simp only [slot_eq,setS_eq]
 rfl
theorem newK_nil {n:Nat} (hs:szOf P t=some (n+1)):newK P h σ s t (.slice none 0 0)=some (setS σ s (.slice (some ⟨h.length,0,some 0⟩) 0 0),h++[.cells t [] (n+1)]):=by
 unfold newK;simp [hs]
theorem prep_frz:prep1 P lo σ h (.frz s)=(freezeV P depth lo h (slot σ s)).map fun r=>(setS σ s r.1,r.2):=by
 unfold prep1
 simp only [slot_eq,setS_eq]
theorem prep_still:prep1 P lo σ h .still=some (σ,h):=rfl
theorem prep_calm:prep1 P lo σ h (.calm s)=some (σ,h):=rfl
def newcK (P:Program) (lo:Nat) (h:Heap) (σ:Slots) (d:Nat) (t:TypeId) (v:Value):Option (Slots × Heap):=match v with
  | .pointer (some a)=>match h[a.block]? with
   | some (.cells ty c g)=>(szOf P t).bind fun n=>if n≠0∧lo≤a.block∧(c[a.off+d]?).any isNil=true then
     some (σ,h.set a.block (.cells ty (c.set (a.off+d) (.slice (some ⟨h.length,0,some 0⟩) 0 0)) g)++[.cells t [] n]) else none
   | _=>none
  | _=>none
theorem prep_newc {d:Nat}:prep1 P lo σ h (.newc s d t)=newcK P lo h σ d t (slot σ s):=by
 unfold prep1 newcK
 simp only [slot_eq]
 rfl
theorem newcK_cell {b n g off d:Nat} {ty:TypeId} {sp:Option Nat} {c:List Value} (hob:h[b]?=some (.cells ty c g)) (hc:c[off+d]?=some (.slice none 0 0)) (hs:szOf P t=some (n+1)) (hlo:lo≤b) :
  newcK P lo h σ d t (.pointer (some ⟨b,off,sp⟩))=some (σ,h.set b (.cells ty (c.set (off+d) (.slice (some ⟨h.length,0,some 0⟩) 0 0)) g)++[.cells t [] (n+1)]):=by
 unfold newcK
 simp only [hob,hs,Option.bind_some,hc]
 rw [if_pos ⟨by omega,hlo,by simp [isNil]⟩]
end
section
variable {h:Heap} {n:Nat}
end
end Go.Proofs.YtplebjehcgcdeaaGreatDoor.Bm
namespace Go.Proofs.YtplebjehcgcdeaaGreatDoor.Bm
open Go Go.RowKit
structure KeyEnc (P:Program) (kt:TypeId) {κ:Type} [DecidableEq κ] (enc:κ→Value):Prop where
 flat:∀ a,Bm.flat (enc a)=true
 ok:∀ a,keyOk P 4 kt (enc a)=true
 eq:∀ a b,aKeyEq P kt (enc a) (enc b)=some (decide (a=b))
 bits:∀ a,Instr.sameBits 10000 (enc a) (enc a)=true
section
variable {κ:Type} {enc:κ→Value}
def ents (enc:κ→Value):List (κ × Value)→Nat→List MapEntry
 | [],_=>[]
 | p :: l,i=>⟨enc p.1,p.2,i⟩ :: ents enc l (i+1)
theorem ents_app {a b:List (κ × Value)}:∀ {i:Nat},ents enc (a++b) i=ents enc a i++ents enc b (i+a.length):=by
 induction a with
 | nil=>intro i;rfl
 | cons p a ih=>intro i;simp [ents,ih];congr 1;omega
def mapB (enc:κ→Value) (l:List (κ × Value)):AObj:=.map (ents enc l 0) l.length
variable [DecidableEq κ]
def aget:List (κ × Value)→κ→Option Value
 | [],_=>none
 | p :: l,k=>if p.1=k then some p.2 else aget l k
def aset:List (κ × Value)→κ→Value→List (κ × Value)
 | [],k,v=>[(k,v)]
 | p :: l,k,v=>if p.1=k then (k,v) :: l else p :: aset l k v
def aidx:List (κ × Value)→κ→Nat
 | [],_=>0
 | p :: l,k=>if p.1=k then 0 else aidx l k+1
theorem aset_len {l:List (κ × Value)} {k:κ} {v:Value}:(aset l k v).length=if aget l k=none then l.length+1 else l.length:=by
 induction l with
 | nil=>simp [aset,aget]
 | cons p l ih =>
  unfold aset aget
  by_cases h:p.1=k
  ·simp [h]
  ·simp only [h,if_false,List.length_cons,ih]
   split <;> rfl
theorem aset_new {l:List (κ × Value)} {k:κ} {v:Value} (h:aget l k=none):aset l k v=l++[(k,v)]:=by
 induction l with
 | nil=>rfl
 | cons p l ih =>
  unfold aget at h
  split at h
  ·cases h
  ·rename_i hp
   unfold aset
   rw [if_neg hp,ih h];rfl
variable {P:Program} {kt:TypeId}
theorem ents_get {l:List (κ × Value)} {k:κ} {v:Value} (h:aget l k=some v):∀ {i:Nat},(ents enc l i)[aidx l k]?=some ⟨enc k,v,i+aidx l k⟩:=by
 induction l with
 | nil=>simp [aget] at h
 | cons p l ih =>
  intro i
  unfold aget at h
  unfold aidx ents
  split
  ·rename_i hp
   rw [if_pos hp] at h
   cases h;cases hp;rfl
  ·rename_i hp
   rw [if_neg hp] at h
   rw [List.getElem?_cons_succ,ih h]
   congr 2;omega
theorem ents_set {l:List (κ × Value)} {k:κ} {v x:Value} (h:aget l k=some v):∀ {i:Nat},(ents enc l i).set (aidx l k) ⟨enc k,x,i+aidx l k⟩=ents enc (aset l k x) i:=by
 induction l with
 | nil=>simp [aget] at h
 | cons p l ih =>
  intro i
  unfold aget at h
  unfold aidx aset
  split
  ·rfl
  ·rename_i hp
   rw [if_neg hp] at h
   have:=ih h (i:=i+1)
   unfold ents
   rw [List.set_cons_succ,← this]
   congr 3;omega
theorem find_ents (K:KeyEnc P kt enc) {l:List (κ × Value)} {k:κ}:∀ {i j:Nat},aFind P kt (enc k) (ents enc l i) j=some ((aget l k).map fun v=>(j+aidx l k,v)):=by
 induction l with
 | nil=>intro i j;rfl
 | cons p l ih =>
  intro i j
  unfold ents aFind aget aidx
  simp only [K.eq,Option.bind_some]
  by_cases h:p.1=k
  ·simp [h]
  ·have h':¬ k=p.1:=fun e=>h e.symm
   simp only [h',decide_false,Bool.false_eq_true,if_false,h,ih]
   congr 2;funext v;simp;omega
variable {h:Heap} {lo r:Nat} {l:List (κ × Value)} {k:κ} {z:Option Value} {ok:Bool}
theorem lookup_none {et:Option MT} {zv:Value} (K:KeyEnc P kt enc) (het:et=some ⟨kt,some zv⟩) (hh:h[r]?=some (mapB enc l)) (hg:aget l k=none) :
  lookupT P et h (.map (some r)) (enc k) ok=some (if ok then .tuple #[zv,.bool false] else zv):=by
 subst het
 unfold lookupT entriesOf
 simp only [Option.bind_some,K.flat,K.ok,Bool.and_self,if_true,hh,mapB]
 simp [find_ents K,hg]
theorem lookup_some {et:Option MT} {v:Value} (K:KeyEnc P kt enc) (het:et=some ⟨kt,z⟩) (hh:h[r]?=some (mapB enc l)) (hg:aget l k=some v) :
  lookupT P et h (.map (some r)) (enc k) ok=some (if ok then .tuple #[v,.bool true] else v):=by
 subst het
 unfold lookupT entriesOf
 simp only [Option.bind_some,K.flat,K.ok,Bool.and_self,if_true,hh,mapB]
 simp [find_ents K,hg]
theorem put_map (K:KeyEnc P kt enc) (hh:h[r]?=some (mapB enc l)) (hlo:lo≤r) {x:Value}:mapPutT P (some ⟨kt,z⟩) h lo (.map (some r)) (enc k) x=some (h.set r (mapB enc (aset l k x))):=by
 unfold mapPutT putEntry
 simp only [Option.bind_some,hh,mapB,hlo,K.flat,K.ok,and_self,if_true,find_ents K]
 cases hg:aget l k with
 | none =>
  simp only [Option.map_none,Option.map_some]
  rw [aset_new hg,ents_app]
  simp [ents]
 | some v =>
  have hi:=ents_get (enc:=enc) hg (i:=0)
  rw [Nat.zero_add] at hi
  have hs:=ents_set (enc:=enc) (x:=x) hg (i:=0)
  rw [Nat.zero_add] at hs
  simp only [Option.map_some,Nat.zero_add,hi,Option.bind_some,K.bits,if_true,hs,aset_len,hg]
  rfl
theorem flat_below {v:Value} (hf:Bm.flat v=true) {n:Nat}:below 8 n v=true:=by
 have ha:∀ (d:Nat) (u:Value),atom u=true→below (d+1) n u=true:=by
  intro d u hu
  cases u with
  | pointer p=>cases p with
   | none=>rfl
   | some a=>simp [atom] at hu
  | slice p a b=>cases p with
   | none=>rfl
   | some a=>simp [atom] at hu
  | map p=>cases p with
   | none=>rfl
   | some a=>simp [atom] at hu
  | agg _=>simp [atom] at hu
  | tuple _=>simp [atom] at hu
  | func f _ _=>simp [atom] at hu
  | iface _ _=>simp [atom] at hu
  | _=>rfl
 cases v with
 | agg cs =>
  obtain ⟨cs⟩:=cs
  have hf:(cs.all atom)=true:=by simpa [Bm.flat] using hf
  show cs.all (below 7 n)=true
  rw [List.all_eq_true] at hf ⊢
  exact fun x hx=>ha 6 x (hf x hx)
 | _=>exact ha 7 _ hf
theorem belO_map {n:Nat} (K:KeyEnc P kt enc) (hl:∀ p∈l,below 8 n p.2=true):belowO n (mapB enc l)=true:=by
 unfold mapB belowO depth
 have:∀ (l:List (κ × Value)) (i:Nat),(∀ p∈l,below 8 n p.2=true)→(ents enc l i).all (fun e=>below 8 n e.key && below 8 n e.val)=true:=by
  intro l
  induction l with
  | nil=>intro i _;rfl
  | cons p l ih =>
   intro i hl
   simp only [ents,List.all_cons,Bool.and_eq_true]
   exact ⟨⟨flat_below (K.flat _),hl p (by simp)⟩,ih _ fun q hq=>hl q (by simp [hq])⟩
 exact this l 0 hl
end
theorem rop_makeMap {E:Env} {C:Callee} {lo:Nat} {st:Bool} {ρ:Operand→Value} {h:Heap}:ropR E C lo st (.makeMap none) ρ h=some (.map (some h.length),h++[.map [] 0]):=rfl
theorem rop_lookup {E:Env} {C:Callee} {lo:Nat} {st:Bool} {ρ:Operand→Value} {h:Heap} {mt:Option MT} {x k:Operand} {ok:Bool}:ropR E C lo st (.lookup mt x k ok) ρ h=(lookupT E.P mt h (ρ x) (ρ k) ok).map (·,h):=rfl
theorem rop_mapPut {E:Env} {C:Callee} {lo:Nat} {ρ:Operand→Value} {h:Heap} {mt:Option MT} {m k x:Operand}:ropR E C lo false (.mapPut mt m k x) ρ h=(mapPutT E.P mt h lo (ρ m) (ρ k) (ρ x)).map fun h'=>(undef,h'):=rfl
theorem rop_mapEntry {E:Env} {C:Callee} {lo:Nat} {ρ:Operand→Value} {h:Heap} {mt:Option MT} {m k:Operand}:ropR E C lo false (.mapEntry mt m k) ρ h=mapEntryT E.P mt h lo (ρ m) (ρ k):=rfl
theorem rop_entryStore {E:Env} {C:Callee} {lo:Nat} {ρ:Operand→Value} {h:Heap} {m s x:Operand}:ropR E C lo false (.entryStore m s x) ρ h=(aEntryStore h lo (ρ m) (ρ s) (ρ x)).map fun h'=>(undef,h'):=rfl
attribute [simp] rop_makeMap rop_lookup rop_mapPut rop_mapEntry rop_entryStore
end Go.Proofs.YtplebjehcgcdeaaGreatDoor.Bm
namespace Go.Proofs.YtplebjehcgcdeaaGreatDoor.Bm
end Go.Proofs.YtplebjehcgcdeaaGreatDoor.Bm
namespace Go.Proofs.YtplebjehcgcdeaaGreatDoor.Bm
open Go Go.RowKit
structure Rec (α:Type) where
 enc:α→List Value
 m:Nat
 len:∀ a,(enc a).length=m+1
 set:∀ a,(enc a).all (settled 8)=true
 bel:∀ a n,(enc a).all (below 8 n)=true
namespace Rec
variable {α:Type} (R:Rec α)
def k:Nat:=R.m+1
def val (a:α):Value:=.agg ⟨R.enc a⟩
def vals (l:List α):List Value:=l.map R.val
def flat (l:List α):List Value:=l.flatMap R.enc
def row (t:TypeId) (l:List α):AObj:=.cells t (R.flat l) (R.m+1)
def sl (b:Nat) (l:List α):Value:=.slice (some ⟨b,0,some (l.length * (R.m+1))⟩) l.length l.length
variable {R}
theorem vals_len {l:List α}:(R.vals l).length=l.length:=List.length_map _
theorem flat_len:∀ {l:List α},(R.flat l).length=l.length * (R.m+1)
 | []=>by simp [flat]
 | a :: l=>by
  have:=flat_len (l:=l)
  show (R.enc a++R.flat l).length=(l.length+1) * (R.m+1)
  rw [List.length_append,R.len,this,Nat.add_mul];omega
theorem flat_app {l m:List α}:R.flat (l++m)=R.flat l++R.flat m:=List.flatMap_append
theorem vals_app {l m:List α}:R.vals (l++m)=R.vals l++R.vals m:=List.map_append
theorem vals_flat (l:List α):(R.vals l).flatMap cellsL=R.flat l:=by
 unfold vals flat
 rw [List.flatMap_map];rfl
theorem vals_all (l:List α):(R.vals l).all (fun v=>(cellsL v).length == R.m+1)=true:=by
 unfold vals
 rw [List.all_map,List.all_eq_true]
 intro a _
 show ((R.enc a).length == R.m+1)=true
 rw [R.len];exact beq_self_eq_true _
theorem vals_agg (l:List α):∀ v∈R.vals l,∃ cs,v=.agg ⟨cs⟩∧cs.length=R.m+1:=by
 intro v hv
 obtain ⟨r,_,rfl⟩:=List.mem_map.1 hv
 exact ⟨R.enc r,rfl,R.len r⟩
theorem flat_set (l:List α):(R.flat l).all (settled 8)=true:=by
 unfold flat
 rw [List.all_flatMap,List.all_eq_true]
 exact fun a _=>R.set a
theorem row_bel {n:Nat} {t:TypeId} (l:List α):belowO n (R.row t l)=true:=by
 show (R.flat l).all (below 8 n)=true
 unfold flat
 rw [List.all_flatMap,List.all_eq_true]
 exact fun a _=>R.bel a n
theorem sl_bel {n d b:Nat} {l:List α} (h:b<n):below (d+1) n (R.sl b l)=true:=decide_eq_true h
theorem sl_len {h:Heap} {b:Nat} {l:List α}:lenT .sl h (R.sl b l)=some (.int .i64 l.length):=rfl
theorem sl_nil {b:Nat}:R.sl b []=.slice (some ⟨b,0,some 0⟩) 0 0:=by unfold sl;simp
theorem tree_len {h:Heap} {x:Bool} {l:List α}:lenT .sl h (lst x (R.vals l))=some (.int .i64 l.length):=by rw [len_lst,vals_len]
theorem elems {P:Program} {t:TypeId} (hs:szOf P t=some (R.m+1)) (ha:aggT P t=some true) (l:List α):elemsOf P t l.length (R.flat l)=some (R.vals l):=by
 unfold elemsOf
 rw [ha,hs]
 have:=chunk_flat (vals_agg (R:=R) l)
 rw [vals_len,vals_flat] at this
 show some (chunk (R.m+1) l.length _)=_
 rw [this]
theorem reify_row {P:Program} {h:Heap} {b n:Nat} {t:TypeId} {l:List α} (hob:h[b]?=some (R.row t l)) (hs:szOf P t=some (R.m+1)) (ha:aggT P t=some true):reify P (n+1) h (R.sl b l)=some (lst false (R.vals l)):=by
 unfold sl
 rw [reify_slice]
 by_cases h0:l.length=0
 ·have:l=[]:=List.eq_nil_of_length_eq_zero h0
  subst this;rfl
 ·rw [if_neg h0]
  show reifyS P n h h[b]? _ _=_
  rw [hob]
  show reifyS P n h (some (.cells t (R.flat l) (R.m+1))) _ _=_
  rw [reifyS_cells,hs,Option.bind_some,if_pos ⟨by unfold stampOk;rw [flat_len];simp,by omega,by rw [flat_len];simp⟩]
  have e:((R.flat l).drop 0).take (l.length * (R.m+1))=R.flat l:=by rw [List.drop_zero,List.take_of_length_le (by rw [flat_len];exact Nat.le_refl _)]
  rw [e,reifyC_set (flat_set l),Option.bind_some,elems hs ha];rfl
theorem reifyR_row {P:Program} {h:Heap} {b:Nat} {t:TypeId} {l:List α} (hob:h[b]?=some (R.row t l)) (hs:szOf P t=some (R.m+1)) (ha:aggT P t=some true):reifyR P h (R.sl b l)=some (lst false (R.vals l)):=reify_row hob hs ha
theorem freeze_row {P:Program} {h:Heap} {lo b:Nat} {t:TypeId} {l:List α} (hob:h[b]?=some (R.row t l)) (hs:szOf P t=some (R.m+1)) (ha:aggT P t=some true) (hlo:lo≤b) :
  freezeV P depth lo h (R.sl b l)=some (lst false (R.vals l),if l.length=0 then h else h.set b .dead) :=
 frz_agg8 (l:=R.vals l) hob hs ha hlo (vals_flat l).symm flat_len.symm vals_len.symm (by omega) (vals_agg l) (flat_set l)
theorem cells_tree {h:Heap} {x:Bool} {s:Nat} (hs:s=R.m+1) (l:List α):sliceCells h s (lst x (R.vals l))=some (R.flat l,l.length):=by
 subst hs
 rw [cells_lst (vals_all l),vals_flat,vals_len]
theorem app {el:El} {h:Heap} {lo b:Nat} {t:TypeId} {acc m:List α} {u:Value} (hel:el.size=R.m+1) (hob:h[b]?=some (R.row t acc)) (hu:sliceCells h el.size u=some (R.flat m,m.length)) (hlo:lo≤b) (hb:(acc.length+m.length) * el.bytes≤2 ^ 47) (hte:t=el.e:=by rfl) :
  appendT (some el) h lo false (R.sl b acc) u=some (R.sl b (acc++m),h.set b (R.row t (acc++m))):=by
 have hob':h[b]?=some (.cells t (R.flat acc) (R.m+1)):=hob
 unfold sl
 rw [append_slice,hu]
 show appS el h lo false _ _ _ h[b]? _=_
 rw [hob']
 by_cases hm:m.length=0
 ·have:m=[]:=List.eq_nil_of_length_eq_zero hm
  subst this
  have hf:fitsRow h ⟨b,0,some (acc.length * (R.m+1))⟩ el.size=true:=by
   unfold fitsRow
   show (match h[b]? with | some (.cells _ c g)=>_ | _=>false)=true
   rw [hob']
   simp [stampOk,flat_len,hel]
  unfold appS
  simp only [List.append_nil,List.length_nil,Nat.add_zero,Nat.le_refl,if_true,hf,Option.bind_some]
  congr 2
  refine (List.ext_getElem? fun i=>?_)
  rw [List.getElem?_set]
  split
  ·rename_i e;subst e
   split
   ·exact hob
   ·rename_i hlt;rw [List.getElem?_eq_none (by omega)]
  ·rfl
 ·refine (appS_grown (m:=m.length) hm flat_len.symm rfl hel flat_len.symm hlo hb hte).trans ?_
  unfold row
  rw [flat_app,← flat_app,flat_len,List.length_append]
theorem index_tree {h0:Nat} {x:Bool} {t:TypeId} {l:List α} {i:Nat} {k:IntKind} (hk:h0=R.m+1) (h1:i<l.length):indexAddrT (.sl t ⟨some true,some h0⟩) (lst x (R.vals l)) (.int k (i:Int))=some (cptr (R.val l[i])):=by
 subst hk
 have e:(R.vals l)[i]?=some (R.val l[i]):=by simp [vals,h1]
 rw [index_lst,if_pos (by omega),show ((i:Int)).toNat=i by omega,e,Option.bind_some]
 have hs:(cellsL (R.val l[i])).length=R.m+1:=R.len _
 rw [if_pos]
 rw [hs]
 have:fitsTT ⟨some true,some (R.m+1)⟩ (R.val l[i])=true:=fits_ag (by show (R.enc l[i]).length=_;exact R.len _)
 rw [this];simp
theorem flat_drop:∀ {l:List α} {i:Nat},(R.flat l).drop (i * (R.m+1))=R.flat (l.drop i)
 | [],i=>by simp [flat]
 | a :: l,0=>by simp
 | a :: l,i+1=>by
  have:=flat_drop (l:=l) (i:=i)
  show (R.enc a++R.flat l).drop _=R.flat (l.drop i)
  rw [← this,List.drop_append,List.drop_of_length_le (by rw [R.len,Nat.add_mul];omega),R.len,List.nil_append]
  congr 1
  rw [Nat.add_mul];omega
theorem flat_at {l:List α} {i:Nat} (h:i<l.length):((R.flat l).drop (i * (R.m+1))).take (R.m+1)=R.enc l[i]:=by
 rw [flat_drop,List.drop_eq_getElem_cons h]
 show (R.enc l[i]++R.flat _).take _=_
 rw [List.take_append,List.take_of_length_le (by rw [R.len];exact Nat.le_refl _),R.len,Nat.sub_self,List.take_zero,List.append_nil]
theorem flat_get {l:List α} {i j:Nat} (h:i<l.length) (hj:j<R.m+1):(R.flat l)[i * (R.m+1)+j]?=(R.enc l[i])[j]?:=by
 rw [← flat_at h,List.getElem?_take,if_pos hj,List.getElem?_drop]
theorem in_row {l:List α} {i:Nat} (h:i<l.length):i * (R.m+1)+(R.m+1)≤l.length * (R.m+1):=by
 have:=Nat.mul_le_mul_right (R.m+1) (show i+1≤l.length from h)
 rw [Nat.add_mul] at this;omega
def at_ (R:Rec α) (b:Nat) (l:List α) (i j:Nat):Value:=.pointer (some ⟨b,i * (R.m+1)+j,some (l.length * (R.m+1))⟩)
theorem index_row {h0:Nat} {t:TypeId} {g:Option Bool} {b:Nat} {l:List α} {i:Nat} {k:IntKind} (hk:h0=R.m+1) (h1:i<l.length):indexAddrT (.sl t ⟨g,some h0⟩) (R.sl b l) (.int k (i:Int))=some (R.at_ b l i 0):=by
 subst hk
 unfold sl
 rw [index_slice,if_pos ⟨by omega,by omega⟩]
 simp [shift,at_]
theorem field_row {b n f:Nat} {l:List α} {i:Nat} {k:TI} {g:Option Bool}:fieldAddrT k (some (f,⟨g,some (n+1)⟩)) (R.at_ b l i 0)=some (R.at_ b l i f):=by
 unfold at_
 rw [fieldAddr_ptr]
 simp [shift]
theorem load_row {h:Heap} {b n:Nat} {t:TypeId} {l:List α} {i:Nat} (hn:n=R.m+1) (hob:h[b]?=some (R.row t l)) (h1:i<l.length):loadT ⟨some true,some n⟩ h (R.at_ b l i 0)=some (R.val l[i]):=by
 subst hn
 unfold at_
 rw [load_agg]
 have e:rowOf h ⟨b,i * (R.m+1)+0,some (l.length * (R.m+1))⟩=some (R.flat l):=by
  unfold rowOf
  show (match h[b]? with | some (.cells _ c g)=>_ | _=>none)=_
  rw [hob]
  show (if stampOk _ (R.m+1) (R.flat l).length=true then some (R.flat l) else none)=_
  rw [if_pos (by unfold stampOk;rw [flat_len];simp)]
 rw [e,Option.bind_some,if_pos (by rw [flat_len];exact in_row h1)]
 show some (Value.agg (((R.flat l).drop (i * (R.m+1)+0)).take (R.m+1)).toArray)=_
 simp only [Nat.add_zero]
 rw [flat_at h1];rfl
theorem load_cell {h:Heap} {b j:Nat} {t:TypeId} {l:List α} {i:Nat} {sz:Option Nat} (hob:h[b]?=some (R.row t l)) (h1:i<l.length) (hj:j<R.m+1):loadT ⟨some false,sz⟩ h (R.at_ b l i j)=(R.enc l[i])[j]?:=by
 unfold at_
 rw [load_one]
 have e:rowOf h ⟨b,i * (R.m+1)+j,some (l.length * (R.m+1))⟩=some (R.flat l):=by
  unfold rowOf
  show (match h[b]? with | some (.cells _ c g)=>_ | _=>none)=_
  rw [hob]
  show (if stampOk _ (R.m+1) (R.flat l).length=true then some (R.flat l) else none)=_
  rw [if_pos (by unfold stampOk;rw [flat_len];simp)]
 rw [e,Option.bind_some]
 exact flat_get h1 hj
theorem flat_put {l:List α} {i j:Nat} {v:Value} {a:α} (h:i<l.length) (hj:j<R.m+1) (he:(R.enc l[i]).set j v=R.enc a):(R.flat l).set (i * (R.m+1)+j) v=R.flat (l.set i a):=by
 induction l generalizing i with
 | nil=>simp at h
 | cons x l ih =>
  cases i with
  | zero =>
   show (R.enc x++R.flat l).set _ v=R.enc a++R.flat l
   rw [Nat.zero_mul,Nat.zero_add,List.set_append_left _ _ (by rw [R.len];exact hj)]
   congr 1
  | succ i =>
   have h':i<l.length:=by simpa using h
   show (R.enc x++R.flat l).set _ v=R.enc x++R.flat (l.set i a)
   rw [List.set_append_right _ _ (by rw [R.len,Nat.add_mul];omega),R.len]
   congr 1
   rw [← ih h' he]
   congr 1
   rw [Nat.add_mul];omega
theorem store_cell {h:Heap} {b j lo:Nat} {t:TypeId} {l:List α} {i:Nat} {v:Value} {a:α} (hv:cellsOf v=some [v]) (hob:h[b]?=some (R.row t l)) (hlo:lo≤b) (h1:i<l.length) (hj:j<R.m+1) (he:(R.enc l[i]).set j v=R.enc a) :
  storeT (some 1) h lo v (R.at_ b l i j)=some (h.set b (R.row t (l.set i a))):=by
 unfold at_
 rw [store_ptr,hv,Option.bind_some]
 have hob':h[b]?=some (.cells t (R.flat l) (R.m+1)):=hob
 have hin:=in_row (R:=R) h1
 rw [if_pos (by rfl)]
 unfold wrN
 show (match h[b]? with | some (.cells t c g)=>_ | _=>none)=_
 rw [hob']
 show (if _ then _ else none)=_
 rw [if_pos ⟨hlo,by unfold stampOk;rw [flat_len];simp,by simp,by rw [flat_len];simp;omega⟩]
 show some (h.set b (.cells t (splice (R.flat l) (i * (R.m+1)+j) [v]) (R.m+1)))=_
 rw [splice_one (by rw [flat_len];omega),flat_put h1 hj he];rfl
theorem zeros_row {z:Value} {a:α} (hz:z.cells=⟨R.enc a⟩) (n:Nat):(zeros z (n * (R.m+1))).toList=R.flat (List.replicate n a):=by
 apply List.ext_getElem?
 intro i
 unfold zeros
 rw [hz]
 have hl:(R.flat (List.replicate n a)).length=n * (R.m+1):=by rw [flat_len,List.length_replicate]
 by_cases h:i<n * (R.m+1)
 ·have hq:i / (R.m+1)<n:=Nat.div_lt_of_lt_mul (by rw [Nat.mul_comm];exact h)
  have hr:i % (R.m+1)<R.m+1:=Nat.mod_lt _ (by omega)
  have e:=flat_get (R:=R) (l:=List.replicate n a) (i:=i / (R.m+1)) (j:=i % (R.m+1)) (by rw [List.length_replicate];exact hq) hr
  rw [Nat.mul_comm,Nat.div_add_mod,List.getElem_replicate] at e
  rw [e]
  simp [h,R.len,hr]
 ·rw [List.getElem?_eq_none (by simpa using h),List.getElem?_eq_none (by rw [hl];omega)]
theorem appN {el:El} {h:Heap} {n:Nat} {k:IntKind} {a:α} (hel:el.size=R.m+1) (hz:el.z.cells=⟨R.enc a⟩) (h0:0<n) (hb:n * el.bytes≤2 ^ 47) :
  appendNT (some el) h (.slice none 0 0) (.int k (n:Int))=some (.slice (some ⟨h.length,0,some (n * (R.m+1))⟩) n n,h++[R.row el.e (List.replicate n a)]):=by
 unfold appendNT
 simp only [Option.bind_some,Int.toNat_natCast]
 rw [if_pos ⟨by omega,hb⟩,hel,zeros_row hz,flat_len,List.length_replicate]
 rfl
theorem app_room {el:El} {h:Heap} {lo b:Nat} {t:TypeId} {l m:List α} {i:Nat} {u:Value} (hel:el.size=R.m+1) (hob:h[b]?=some (R.row t l)) (hu:sliceCells h el.size u=some (R.flat m,m.length)) (hlo:lo≤b) (hi:i+m.length≤l.length) :
  appendT (some el) h lo false (.slice (some ⟨b,0,some (l.length * (R.m+1))⟩) i l.length) u=some (.slice (some ⟨b,0,some (l.length * (R.m+1))⟩) (i+m.length) l.length,h.set b (R.row t (l.take i++m++l.drop (i+m.length)))):=by
 have hob':h[b]?=some (.cells t (R.flat l) (R.m+1)):=hob
 have hf:fitsRow h ⟨b,0,some (l.length * (R.m+1))⟩ el.size=true:=by
  unfold fitsRow
  show (match h[b]? with | some (.cells _ c g)=>_ | _=>false)=true
  rw [hob']
  simp [stampOk,flat_len,hel]
 rw [append_slice,hu]
 show appS el h lo false _ _ _ h[b]? _=_
 unfold appS
 simp only [Option.bind_some]
 rw [if_pos hi]
 by_cases hm:m.length=0
 ·have:m=[]:=List.eq_nil_of_length_eq_zero hm
  subst this
  rw [if_pos hm,if_pos hf]
  congr 2
  rw [List.append_nil,List.length_nil,Nat.add_zero,List.take_append_drop]
  refine (List.ext_getElem? fun i=>?_)
  rw [List.getElem?_set]
  split
  ·rename_i e;subst e
   split
   ·exact hob
   ·rename_i hlt;rw [List.getElem?_eq_none (by omega)]
  ·rfl
 ·have hml:0<(R.flat m).length:=by rw [flat_len];exact Nat.mul_pos (by omega) (by omega)
  rw [if_neg hm,hf]
  simp only [Bool.not_true,Bool.or_false,Bool.false_eq_true,if_false]
  have hin:i * (R.m+1)+m.length * (R.m+1)≤l.length * (R.m+1):=by rw [← Nat.add_mul];exact Nat.mul_le_mul_right _ hi
  unfold wrN
  show Option.map _ (match h[b]? with | some (.cells t c g)=>_ | _=>none)=_
  rw [hob']
  show Option.map _ (if _ then _ else none)=_
  rw [if_pos ⟨hlo,by unfold shift stampOk;rw [flat_len];simp,hml,by unfold shift;rw [flat_len,flat_len,hel];simp;exact hin⟩]
  show some (_,h.set b (.cells t (splice (R.flat l) (0+i * el.size) (R.flat m)) (R.m+1)))=_
  have e:splice (R.flat l) (0+i * el.size) (R.flat m)=R.flat (l.take i++m++l.drop (i+m.length)):=by
   unfold splice
   rw [hel,Nat.zero_add,flat_len (l:=m),← Nat.add_mul,flat_drop,flat_app,flat_app]
   congr 2
   have k:=congrArg (List.take (i * (R.m+1))) (show R.flat l=R.flat (l.take i)++R.flat (l.drop i) by rw [← flat_app,List.take_append_drop])
   rw [k,List.take_append,List.take_of_length_le (by rw [flat_len,List.length_take];exact Nat.mul_le_mul_right _ (Nat.min_le_left _ _))]
   have:(R.flat (l.take i)).length=i * (R.m+1):=by rw [flat_len,List.length_take,Nat.min_eq_left (by omega)]
   rw [this,Nat.sub_self,List.take_zero,List.append_nil]
  rw [e];rfl
end Rec
end Go.Proofs.YtplebjehcgcdeaaGreatDoor.Bm
