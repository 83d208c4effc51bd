/-
 Regions, plain: what the program's operations make of lists of rectangles. Conditions: none. No program in sight.
-/
import Derived.Test.YtnhdabelepjgbaaGreatQT16
import Derived.Test.YtnhdabelepjgbaaGreatChecked
import Derived.Shelf.SlSortCmp.WholeK
import Derived.Shelf.SlSortCmp.NoneTotal
import Derived.Test.YtnhdabelepjgbaaGreatQT17
import Derived.Test.YtnhdabelepjgbaaGreatQT19
namespace Go.Proofs.YtnhdabelepjgbaaGreat
open Go Go.RowKit Go.Shelf Go.Sort
theorem flatK_flat (d:Array (Int × Int)):flatK spanV 2 d=(d.toList.flatMap spanV).toArray:=by
 obtain ⟨l⟩:=d
 refine ext_get! (by rw [size_flatK];show l.length * 2=(l.flatMap spanV).length;rw [flat_len]) fun t ht=>?_
 have ht':t<l.length * 2:=by simpa using ht
 rw [get_flatK spanV 2 ⟨l⟩ t ht']
 have e:(l.flatMap spanV).toArray[t]! = (l.flatMap spanV)[t]!:=by simp
 have e2:∀ i,(l.toArray)[i]! = l[i]!:=fun i=>by first | rfl | exact (List.getElem!_toArray ..) | (by_cases h:i<l.length <;> simp [h])
 show (spanV l.toArray[t / 2]!)[t % 2]! = (l.flatMap spanV).toArray[t]!
 rw [e,flat_get l t ht',e2]
def laysSpan_ren:Go.Shelf.Ren:=⟨fun | 6=>104 | 15=>45 | 14=>107 | 28=>71 | 29=>72 | 20=>108 | 21=>109 | 22=>110 | 23=>111 | 24=>112 | 25=>113 | 26=>114 | 27=>115 | 46=>116 | 47=>92 | 48=>93 | 49=>117 | 50=>118 | 57=>119 | n=>n,fun | 22=>122 | 24=>124 | 25=>137 | 3=>3 | 39=>72 | 0=>0 | 53=>100 | 55=>102 | 4=>4 | 46=>92 | 45=>91 | 50=>97 | 5=>5 | 9=>9 | 66=>115 | 70=>119 | 76=>133 | 77=>134 | n=>n,fun | n=>n⟩
theorem laysSpan:Go.Proofs.SlLaysF0.n6 Tryz.prog laysSpan_ren:={
 mixed:=by kernel_rfl
 f6:=⟨Tryz.f104.name,by decide,Tryz.func104.trans (congrArg some (by kernel_rfl))⟩
 f14:=⟨Tryz.f107.name,by decide,Tryz.func107.trans (congrArg some (by kernel_rfl))⟩
 f15:=Tryz.func45.trans (congrArg some (by kernel_rfl))
 f20:=⟨Tryz.f108.name,by decide,Tryz.func108.trans (congrArg some (by kernel_rfl))⟩
 f21:=⟨Tryz.f109.name,by decide,Tryz.func109.trans (congrArg some (by kernel_rfl))⟩
 f22:=⟨Tryz.f110.name,by decide,Tryz.func110.trans (congrArg some (by kernel_rfl))⟩
 f23:=⟨Tryz.f111.name,by decide,Tryz.func111.trans (congrArg some (by kernel_rfl))⟩
 f24:=⟨Tryz.f112.name,by decide,Tryz.func112.trans (congrArg some (by kernel_rfl))⟩
 f25:=⟨Tryz.f113.name,by decide,Tryz.func113.trans (congrArg some (by kernel_rfl))⟩
 f26:=⟨Tryz.f114.name,by decide,Tryz.func114.trans (congrArg some (by kernel_rfl))⟩
 f27:=⟨Tryz.f115.name,by decide,Tryz.func115.trans (congrArg some (by kernel_rfl))⟩
 f28:=Tryz.func71.trans (congrArg some (by kernel_rfl))
 f29:=Tryz.func72.trans (congrArg some (by kernel_rfl))
 f46:=⟨Tryz.f116.name,by decide,Tryz.func116.trans (congrArg some (by kernel_rfl))⟩
 f47:=Tryz.func92.trans (congrArg some (by kernel_rfl))
 f48:=Tryz.func93.trans (congrArg some (by kernel_rfl))
 f49:=⟨Tryz.f117.name,by decide,Tryz.func117.trans (congrArg some (by kernel_rfl))⟩
 f50:=⟨Tryz.f118.name,by decide,Tryz.func118.trans (congrArg some (by kernel_rfl))⟩
 f57:=⟨Tryz.f119.name,by decide,Tryz.func119.trans (congrArg some (by kernel_rfl))⟩
 t0:=Tryz.underlying0
 a0:=Tryz.isAgg0
 z0:=Tryz.sizeOf0
 v0:=Tryz.zeroValue0
 t3:=Tryz.underlying3
 a3:=Tryz.isAgg3
 z3:=Tryz.sizeOf3
 v3:=Tryz.zeroValue3
 t4:=Tryz.underlying4
 a4:=Tryz.isAgg4
 z4:=Tryz.sizeOf4
 v4:=Tryz.zeroValue4
 t5:=Tryz.underlying5
 a5:=Tryz.isAgg5
 z5:=Tryz.sizeOf5
 v5:=Tryz.zeroValue5
 t9:=Tryz.underlying9
 a9:=Tryz.isAgg9
 z9:=Tryz.sizeOf9
 v9:=Tryz.zeroValue9
 t22:=Tryz.underlying122
 a22:=Tryz.isAgg122
 z22:=Tryz.sizeOf122
 v22:=Tryz.zeroValue122
 t25:=Tryz.underlying137
 a25:=Tryz.isAgg137
 z25:=Tryz.sizeOf137
 v25:=Tryz.zeroValue137
 t39:=Tryz.underlying72
 a39:=Tryz.isAgg72
 z39:=Tryz.sizeOf72
 v39:=Tryz.zeroValue72
 t45:=Tryz.underlying91
 a45:=Tryz.isAgg91
 z45:=Tryz.sizeOf91
 v45:=Tryz.zeroValue91
 t46:=Tryz.underlying92
 a46:=Tryz.isAgg92
 z46:=Tryz.sizeOf92
 v46:=Tryz.zeroValue92
 t50:=Tryz.underlying97
 a50:=Tryz.isAgg97
 z50:=Tryz.sizeOf97
 v50:=Tryz.zeroValue97
 t53:=Tryz.underlying100
 a53:=Tryz.isAgg100
 z53:=Tryz.sizeOf100
 v53:=Tryz.zeroValue100
 t55:=Tryz.underlying102
 a55:=Tryz.isAgg102
 z55:=Tryz.sizeOf102
 v55:=Tryz.zeroValue102
 t66:=Tryz.underlying115
 a66:=Tryz.isAgg115
 z66:=Tryz.sizeOf115
 v66:=Tryz.zeroValue115
 t70:=Tryz.underlying119
 a70:=Tryz.isAgg119
 z70:=Tryz.sizeOf119
 v70:=Tryz.zeroValue119
 t76:=Tryz.underlying133
 a76:=Tryz.isAgg133
 z76:=Tryz.sizeOf133
 v76:=Tryz.zeroValue133
 t77:=Tryz.underlying134
 a77:=Tryz.isAgg134
 z77:=Tryz.sizeOf134
 v77:=Tryz.zeroValue134 }
set_option maxHeartbeats 1000000 in
theorem nan_walk (x:Int) (W:World):Calls Tryz.prog 73 #[.int .i64 x] W fun e w'=>e=.returned (.bool false)∧w'=W:=by
 go_enter Tryz.func73,Tryz.ntmps73
 go_wp2
 go_ret
 exact ⟨rfl,rfl⟩
set_option maxHeartbeats 1000000 in
theorem compare_walk (x y:Int) (W:World):Calls Tryz.prog 47 #[.int .i64 x,.int .i64 y] W fun e w'=>e=.returned (.int .i64 (cmpI x y))∧w'=W:=by
 unfold cmpI
 have h1:=fun x W=>nan_walk x W
 go_enter Tryz.func47,Tryz.ntmps47
 by_cases hxy:x<y
 ·rw [if_pos hxy]
  go_wp2_with (go_at_call 73;refine (h1 _ _).mono ?_;rintro e w' ⟨rfl,rfl⟩)
  go_ret
  exact ⟨rfl,rfl⟩
 ·rw [if_neg hxy]
  by_cases hyx:y<x
  ·rw [if_pos hyx]
   go_wp2_with (go_at_call 73;refine (h1 _ _).mono ?_;rintro e w' ⟨rfl,rfl⟩)
   go_ret
   exact ⟨rfl,rfl⟩
  ·rw [if_neg hyx]
   go_wp2_with (go_at_call 73;refine (h1 _ _).mono ?_;rintro e w' ⟨rfl,rfl⟩)
   go_ret
   exact ⟨rfl,rfl⟩
set_option maxHeartbeats 1000000 in
theorem closure_walk (x y:Int × Int) (W:World):Calls Tryz.prog 105 #[.agg #[.int .i64 x.1,.int .i64 x.2],.agg #[.int .i64 y.1,.int .i64 y.2]] W fun e w'=>e=.returned (.int .i64 (cmpS x y))∧∃ q os',w'=grow (W.drewN q) os':=by
 have hcon:=fun W'=>compare_walk x.1 y.1 W'
 unfold cmpS
 generalize cmpI x.1 y.1=r at hcon ⊢
 go_enter Tryz.func105,Tryz.ntmps105
 go_wp2_with (go_at_call 47;refine (hcon _).mono ?_;rintro e w' ⟨rfl,rfl⟩)
 go_ret
 exact ⟨rfl,0,_,by rw [alloc_eq_grow,alloc_eq_grow,grow_grow];rfl⟩
theorem ltO_eq (cf:(Int × Int)→(Int × Int)→Int):ltO cf=ltOf cf:=rfl
theorem conSpan:Bm.CellCon Tryz.prog 104 105 2 sortSF where
 row blk off cap n c d w hF hc hH hblk h0 hn hcap:=by
  unfold sortSF at hF
  cases e:spanD c with
  | none=>rw [e] at hF;cases hF
  | some l =>
   rw [e] at hF;cases hF
   have ec:=spanD_some e
   subst ec
   have hl:l.toArray.size=n:=by
    rw [flat_len] at hc
    simp;omega
   have eg:∀ args w,(callFunc 105 args).run Tryz.prog w=.ok (.enter 105 args) w:=enters_of Tryz.func105 (by kernel_rfl) rfl
   have con:=AnyQ.slices_SortFunc_eq laysSpan 2 Tryz.isAgg124 Tryz.sizeOf124 spanV (fun _=>rfl) (fun x v hv=>by simp [spanV] at hv;rcases hv with rfl | rfl <;> rfl) cmpS (ltO_eq cmpS ▸ swoS) 105 #[] blk off cap l.toArray w eg (fun _ _ _ _ x y=>closure_walk x y _) (by unfold HoldsK;rw [flatK_flat];exact hH) hblk (by rw [hl];exact hn)
   change Calls Tryz.prog 104 _ _ _ at con
   rw [hl] at con
   refine con.mono fun e w' he=>⟨he.1,?_⟩
   obtain ⟨m,os,rfl⟩:=he.2
   refine ⟨m,os,?_⟩
   unfold sortWorldK putRowK
   rw [flatK_flat]
   show _=grow (putRow id (Sort.ahead w m) blk off ((sortS l).flatMap spanV).toArray) os
   unfold sortS
   rw [hl,ltO_eq]
 none p cap w:=AnyF.slices_SortFunc_none laysSpan p cap _ w
 dfd:=⟨_,Tryz.func104,rfl⟩
 len c d h:=by
  unfold sortSF at h
  cases e:spanD c with
  | none=>rw [e] at h;cases h
  | some l =>
   rw [e] at h;cases h
   rw [spanD_some e,flat_len,flat_len,(sortS_perm l).length_eq]
 atoms c d h:=by
  unfold sortSF at h
  cases e:spanD c with
  | none=>rw [e] at h;cases h
  | some l =>
   rw [e] at h;cases h
   have key:∀ l:List (Int × Int),(l.flatMap spanV).all Bm.atom=true:=by
    intro l
    induction l with
    | nil=>rfl
    | cons x l ih=>rw [List.flatMap_cons,List.all_append,ih];rfl
   exact ⟨by rw [spanD_some e];exact key _,key _⟩
 pos:=by decide
end Go.Proofs.YtnhdabelepjgbaaGreat
namespace Go.Proofs.YtnhdabelepjgbaaGreat.Bm
open Go Go.RowKit
namespace Rec
variable {α:Type} {R:Rec α}
def o (R:Rec α) (k:Option Bool) (l:List α):Value:=match k with | none=>.slice none 0 0 | some b=>lst b (R.vals l)
def Ok (k:Option Bool) (l:List α):Prop:=k=none→l=[]
theorem ok_some {b:Bool} {l:List α}:Ok (some b) l:=fun h=>by cases h
section
variable {k:Option Bool} {l:List α} {h:Heap}
theorem o_len (hk:Ok k l):lenT .sl h (R.o k l)=some (.int .i64 l.length):=by
 cases k with
 | none=>have:=hk rfl;subst this;rfl
 | some b=>exact tree_len
theorem o_one:one (R.o k l)=true:=by cases k <;> rfl
theorem o_set {n:Nat}:settled (n+1) (R.o k l)=true:=by cases k <;> rfl
theorem o_bel {d n:Nat}:below (d+1) n (R.o k l)=true:=by cases k <;> rfl
theorem o_fits {sz:Option Nat}:fitsTT ⟨some false,sz⟩ (R.o k l)=true:=by cases k <;> rfl
theorem o_reify {P:Program} {n:Nat}:reify P (n+1) h (R.o k l)=some (R.o k l):=by cases k <;> rfl
theorem o_cells1:cellsL (R.o k l)=[R.o k l]:=by cases k <;> rfl
theorem o_cells {s:Nat} (hs:s=R.m+1) (hk:Ok k l):sliceCells h s (R.o k l)=some (R.flat l,l.length):=by
 cases k with
 | none=>have:=hk rfl;subst this;rfl
 | some b=>exact cells_tree hs l
theorem o_index {s i:Nat} {t:TypeId} {kk:IntKind} (hs:s=R.m+1) (hk:Ok k l) (h1:i<l.length):indexAddrT (.sl t ⟨some true,some s⟩) (R.o k l) (.int kk (i:Int))=some (cptr (R.val l[i])):=by
 cases k with
 | none=>have:=hk rfl;subst this;simp at h1
 | some b=>exact index_tree hs h1
end
theorem app_fill {el:El} {h:Heap} {lo b n r:Nat} {t:TypeId} {acc m:List α} {z:α} {u:Value} (hel:el.size=R.m+1) (hob:h[b]?=some (R.row t (acc++List.replicate r z))) (hn:n=acc.length+r)
  (hu:sliceCells h el.size u=some (R.flat m,m.length)) (hlo:lo≤b) (hm:m.length≤r) :
  appendT (some el) h lo false (.slice (some ⟨b,0,some (n * (R.m+1))⟩) acc.length n) u=some (.slice (some ⟨b,0,some (n * (R.m+1))⟩) (acc++m).length n,h.set b (R.row t ((acc++m)++List.replicate (r-m.length) z))):=by
 have hl:(acc++List.replicate r z).length=n:=by rw [List.length_append,List.length_replicate,hn]
 have key:=app_room (i:=acc.length) hel hob hu hlo (by rw [hl,hn];omega)
 rw [hl] at key
 rw [key]
 have e1:(acc++List.replicate r z).take acc.length=acc:=by simp
 have e2:(acc++List.replicate r z).drop (acc.length+m.length)=List.replicate (r-m.length) z:=by
  rw [List.drop_append,List.drop_of_length_le (by omega)];simp
 rw [e1,e2,List.length_append]
theorem slice_none {ix:TypeId} {g:TI} {s:Nat} {h:Heap} {k:IntKind} (hs:g.sz=some s):sliceT (.sl ix g) h (.slice none 0 0) none (some (.int k 0)) none=some (.slice none 0 0):=by
 unfold sliceT
 simp [hs,bound]
theorem slice_row0 {e t:TypeId} {g:Option Bool} {h:Heap} {b n s:Nat} {l:List α} {k:IntKind} (hs:s=R.m+1) (hob:h[b]?=some (R.row t l)) (hn:n=l.length) :
  sliceT (.sl e ⟨g,some s⟩) h (.slice (some ⟨b,0,some (n * (R.m+1))⟩) n n) none (some (.int k 0)) none=some (.slice (some ⟨b,0,some (n * (R.m+1))⟩) 0 n):=by
 subst hs;subst hn
 have hob':h[b]?=some (.cells t (R.flat l) (R.m+1)):=hob
 have hf:fitsRow h ⟨b,0,some (l.length * (R.m+1))⟩ (R.m+1)=true:=by
  unfold fitsRow
  show (match h[b]? with | some (.cells _ c g)=>_ | _=>false)=true
  rw [hob']
  simp [stampOk,flat_len]
 unfold sliceT
 simp [hf,bound,rowSl,shift]
end Rec
open Rg (Rect Slab)
theorem neq2 (a b c d:Int):aBin E.P .neq 124 (.agg ⟨[.int .i64 a,.int .i64 b]⟩) (.agg ⟨[.int .i64 c,.int .i64 d]⟩)=(allOf [some (a == c),some (b == d)]).map fun b=>.bool (!b):=by kernel_rfl
theorem neq4 (a b c d a' b' c' d':Int):aBin E.P .neq 39 (.agg ⟨[.int .i64 a,.int .i64 b,.int .i64 c,.int .i64 d]⟩) (.agg ⟨[.int .i64 a',.int .i64 b',.int .i64 c',.int .i64 d']⟩)=(allOf [some (a == a'),some (b == b'),some (c == c'),some (d == d')]).map fun b=>.bool (!b):=by kernel_rfl
theorem allOf_some (b:Bool) (r:List (Option Bool)) (c:Bool) (h:allOf r=some c):allOf (some b :: r)=some (b && c):=by cases b <;> simp [allOf,h]
theorem allOf_two (a b:Bool):allOf [some a,some b]=some (a && (b && true)):=allOf_some _ _ _ (allOf_some _ _ _ rfl)
theorem allOf_four (a b c d:Bool):allOf [some a,some b,some c,some d]=some (a && (b && (c && (d && true)))):=allOf_some _ _ _ (allOf_some _ _ _ (allOf_some _ _ _ (allOf_some _ _ _ rfl)))
theorem neq_span (s t:Int × Int):aBin E.P .neq 124 (spanR.val s) (spanR.val t)=some (.bool (decide (s≠t))):=by
 obtain ⟨a,b⟩:=s
 obtain ⟨c,d⟩:=t
 rw [span_val,span_val,neq2]
 by_cases h1:a=c <;> by_cases h2:b=d <;> simp [allOf_two,h1,h2]
theorem neq_rect (s t:Rect):aBin E.P .neq 39 (rectR.val s) (rectR.val t)=some (.bool (decide (s≠t))):=by
 obtain ⟨a,b,c,d⟩:=s
 obtain ⟨a',b',c',d'⟩:=t
 rw [rect_val,rect_val,neq4]
 by_cases h1:a=a' <;> by_cases h2:b=b' <;> by_cases h3:c=c' <;> by_cases h4:d=d' <;> simp [allOf_four,h1,h2,h3,h4]
def eqL {α:Type} [DecidableEq α] (a b:List α):Bool:=decide (a=b)
theorem eqL_cons {α:Type} [DecidableEq α] {a b:α} {x y:List α}:eqL (a :: x) (b :: y)=(decide (a=b) && eqL x y):=by
 unfold eqL;simp only [List.cons.injEq,Bool.decide_and]
theorem equal_spans (x y:Bool) (l r:List (Int × Int)) (hl:l.length≤1000000):pureCall E.P (L E) 96 [lst x (spanR.vals l),lst y (spanR.vals r)]=some (.bool (decide (l=r))):=by
 have ixl:∀ (i:Nat) (hi:i<l.length),indexAddrT (.sl 124 ⟨some true,some 2⟩) (lst x (spanR.vals l)) (.int .i64 (i:Int))=some (cptr (spanR.val l[i])):=fun i hi=>Rec.index_tree rfl hi
 have ixr:∀ (i:Nat) (hi:i<r.length),indexAddrT (.sl 124 ⟨some true,some 2⟩) (lst y (spanR.vals r)) (.int .i64 (i:Int))=some (cptr (spanR.val r[i])):=fun i hi=>Rec.index_tree rfl hi
 have fit:∀ s,fitsTT ⟨some true,some 2⟩ (spanR.val s)=true:=fun s=>rfl
 have rv:∀ s h,reify E.P 8 h (spanR.val s)=some (spanR.val s):=fun s h=>rfl
 rw [pureCall_fn F96 rfl]
 simp -implicitDefEqProofs [r96,padS,Rec.vals_len]
 by_cases hlen:l.length=r.length
 ·simp -implicitDefEqProofs [hlen,Rec.vals_len]
  rw [LL_for (γ:=Unit) l () (fun i _=>[(13,.int .i64 i)]) (fun _ _=>[]) (fun i rest _=>if eqL rest (r.drop i) then (.exit 0,[(13,undef)],[]) else (.ret,[(4,.bool false),(13,undef)],[])) (fun _ _=>True) (by omega) trivial]
  ·cases h:eqL l r
   ·have:¬ l=r:=of_decide_eq_false h
    simp [this,k96_4,h]
   ·have:l=r:=of_decide_eq_true h
    simp [this,k96_4,eqL]
  ·simp [k96_4]
  ·rfl
  ·intro nx i c hi _
   have hd0:eqL [] (r.drop i)=true:=by rw [List.drop_eq_nil_of_le (by omega)];rfl
   rw [hd0]
   simp -implicitDefEqProofs [r96_4,k96_4,hi,hlen,trim_le]
  ·intro nx i v rest c hi hv hd hw _ ih
   have ih:=ih () trivial
   have hi':i<r.length:=by omega
   have hrd:r.drop i=r[i] :: r.drop (i+1):=List.drop_eq_getElem_cons hi'
   rw [hrd,eqL_cons]
   simp -implicitDefEqProofs [k96_4] at ih
   by_cases he:v=r[i]
   ·simp -implicitDefEqProofs [r96_4,k96_4,hi',ixl i hi,ixr i hi',fit,neq_span,hv,hw,he,trim_le]
    exact ih
   ·simp -implicitDefEqProofs [r96_4,k96_4,hi',ixl i hi,ixr i hi',fit,neq_span,hv,he,trim_le]
 ·have:¬ l=r:=fun e=>hlen (by rw [e])
  have hlen':¬ ((l.length:Int)=r.length):=by omega
  simp -implicitDefEqProofs [hlen',this]
theorem equal_rects (x y:Option Bool) (l r:List Rect) (hx:Rec.Ok x l) (hy:Rec.Ok y r) (hl:l.length≤1000000):pureCall E.P (L E) 53 [rectR.o x l,rectR.o y r]=some (.bool (decide (l=r))):=by
 have ixl:∀ (i:Nat) (hi:i<l.length),indexAddrT (.sl 39 ⟨some true,some 4⟩) (rectR.o x l) (.int .i64 (i:Int))=some (cptr (rectR.val l[i])):=fun i hi=>Rec.o_index (R:=rectR) rfl hx hi
 have ixr:∀ (i:Nat) (hi:i<r.length),indexAddrT (.sl 39 ⟨some true,some 4⟩) (rectR.o y r) (.int .i64 (i:Int))=some (cptr (rectR.val r[i])):=fun i hi=>Rec.o_index (R:=rectR) rfl hy hi
 have fit:∀ s,fitsTT ⟨some true,some 4⟩ (rectR.val s)=true:=fun s=>rfl
 have rv:∀ s h,reify E.P 8 h (rectR.val s)=some (rectR.val s):=fun s h=>rfl
 rw [pureCall_fn F53 rfl]
 simp -implicitDefEqProofs [r53,padS,Rec.o_len hx,Rec.o_len hy]
 by_cases hlen:l.length=r.length
 ·simp -implicitDefEqProofs [hlen,Rec.o_len hx,Rec.o_len hy]
  rw [LL_for (γ:=Unit) l () (fun i _=>[(13,.int .i64 i)]) (fun _ _=>[]) (fun i rest _=>if eqL rest (r.drop i) then (.exit 0,[(13,undef)],[]) else (.ret,[(4,.bool false),(13,undef)],[])) (fun _ _=>True) (by omega) trivial]
  ·cases h:eqL l r
   ·have:¬ l=r:=of_decide_eq_false h
    simp [this,k53_4,h]
   ·have:l=r:=of_decide_eq_true h
    simp [this,k53_4,eqL]
  ·simp [k53_4]
  ·rfl
  ·intro nx i c hi _
   have hd0:eqL [] (r.drop i)=true:=by rw [List.drop_eq_nil_of_le (by omega)];rfl
   rw [hd0]
   simp -implicitDefEqProofs [r53_4,k53_4,hi,hlen,trim_le]
  ·intro nx i v rest c hi hv hd hw _ ih
   have ih:=ih () trivial
   have hi':i<r.length:=by omega
   have hrd:r.drop i=r[i] :: r.drop (i+1):=List.drop_eq_getElem_cons hi'
   rw [hrd,eqL_cons]
   simp -implicitDefEqProofs [k53_4] at ih
   by_cases he:v=r[i]
   ·simp -implicitDefEqProofs [r53_4,k53_4,hi',ixl i hi,ixr i hi',fit,neq_rect,hv,hw,he,trim_le]
    exact ih
   ·simp -implicitDefEqProofs [r53_4,k53_4,hi',ixl i hi,ixr i hi',fit,neq_rect,hv,he,trim_le]
 ·have:¬ l=r:=fun e=>hlen (by rw [e])
  have hlen':¬ ((l.length:Int)=r.length):=by omega
  simp -implicitDefEqProofs [hlen',this]
theorem same_rects (x y:Option Bool) (l r:List Rect) (hx:Rec.Ok x l) (hy:Rec.Ok y r) (hl:l.length≤1000000):pureCall E.P (L E) 7 [rectR.o x l,rectR.o y r]=some (.bool (decide (l=r))):=by
 have ixl:∀ (i:Nat) (hi:i<l.length),indexAddrT (.sl 39 ⟨some true,some 4⟩) (rectR.o x l) (.int .i64 (i:Int))=some (cptr (rectR.val l[i])):=fun i hi=>Rec.o_index (R:=rectR) rfl hx hi
 have ixr:∀ (i:Nat) (hi:i<r.length),indexAddrT (.sl 39 ⟨some true,some 4⟩) (rectR.o y r) (.int .i64 (i:Int))=some (cptr (rectR.val r[i])):=fun i hi=>Rec.o_index (R:=rectR) rfl hy hi
 have fit:∀ s,fitsTT ⟨some true,some 4⟩ (rectR.val s)=true:=fun s=>rfl
 have rv:∀ s h,reify E.P 8 h (rectR.val s)=some (rectR.val s):=fun s h=>rfl
 rw [pureCall_fn F7 rfl]
 simp -implicitDefEqProofs [r7,padS,Rec.o_len hx,Rec.o_len hy]
 by_cases hlen:l.length=r.length
 ·simp -implicitDefEqProofs [hlen,Rec.o_len hx,Rec.o_len hy]
  rw [LL_for (γ:=Unit) l () (fun i _=>[(5,.int .i64 i)]) (fun _ _=>[]) (fun i rest _=>if eqL rest (r.drop i) then (.exit 0,[(5,undef)],[]) else (.ret,[(4,.bool false),(5,undef)],[])) (fun _ _=>True) (by omega) trivial]
  ·cases h:eqL l r
   ·have:¬ l=r:=of_decide_eq_false h
    simp [this,k7_4,h]
   ·have:l=r:=of_decide_eq_true h
    simp [this,k7_4,eqL]
  ·simp [k7_4]
  ·rfl
  ·intro nx i c hi _
   have hd0:eqL [] (r.drop i)=true:=by rw [List.drop_eq_nil_of_le (by omega)];rfl
   rw [hd0]
   simp -implicitDefEqProofs [r7_4,k7_4,Rec.o_len hx,Rec.o_len hy,hi,hlen,trim_le]
  ·intro nx i v rest c hi hv hd hw _ ih
   have ih:=ih () trivial
   have hi':i<r.length:=by omega
   have hrd:r.drop i=r[i] :: r.drop (i+1):=List.drop_eq_getElem_cons hi'
   rw [hrd,eqL_cons]
   simp -implicitDefEqProofs [k7_4] at ih
   by_cases he:v=r[i]
   ·simp -implicitDefEqProofs [r7_4,k7_4,Rec.o_len hx,Rec.o_len hy,hi',hlen,ixl i hi,ixr i hi',fit,neq_rect,hv,hw,he,trim_le]
    exact ih
   ·simp -implicitDefEqProofs [r7_4,k7_4,Rec.o_len hx,Rec.o_len hy,hi',hlen,ixl i hi,ixr i hi',fit,neq_rect,hv,he,trim_le]
 ·have:¬ l=r:=fun e=>hlen (by rw [e])
  have hlen':¬ ((l.length:Int)=r.length):=by omega
  simp -implicitDefEqProofs [hlen',this]
open Rg (Rect Slab)
theorem cap_nil {h:Heap}:lenT .cap h (.slice none 0 0)=some (.int .i64 0):=rfl
def tot {α:Type}:List (Option Bool × List α)→Nat
 | []=>0
 | p :: r=>p.2.length+tot r
def allP {α:Type} (P:List (Option Bool × List α)):List α:=P.flatMap (·.2)
theorem tot_all {α:Type}:∀ (P:List (Option Bool × List α)),(allP P).length=tot P
 | []=>rfl
 | p :: r=>by
  show (p.2++allP r).length=p.2.length+tot r
  rw [List.length_append,tot_all r]
theorem tot_zero {α:Type} {P:List (Option Bool × List α)} (h:tot P=0):∀ p∈P,p.2=[]:=by
 intro p hp
 have h0:(allP P).length=0:=by rw [tot_all,h]
 have:allP P=[]:=List.eq_nil_of_length_eq_zero h0
 apply List.eq_nil_iff_forall_not_mem.2
 intro a ha
 have:a∈allP P:=List.mem_flatMap.2 ⟨p,hp,ha⟩
 rw [‹allP P=[]›] at this
 cases this
theorem rects_grow (n:Nat) (h:Heap) (lo:Nat) (hn:n≤1000000):L E 98 [.slice none 0 0,.int .i64 (n:Int)] h lo =
  some (if n=0 then (.slice none 0 0,h) else (.slice (some ⟨h.length,0,some (n * 4)⟩) 0 n,h++[rectR.row 39 (List.replicate n zeroR)])):=by
 have sn:sliceT (.sl 39 ⟨some true,some 4⟩) h (.slice none 0 0) none (some (.int .i64 0)) none=some (.slice none 0 0):=Rec.slice_none rfl
 have w1:IntKind.i64.wrap (n:Int)=n:=wrap64 (by omega) (by omega)
 have w0:IntKind.i64.wrap 0=0:=rfl
 rw [L_fn F98 rfl]
 simp -implicitDefEqProofs [r98,padS]
 by_cases h0:n=0
 ·subst h0
  simp -implicitDefEqProofs [cap_nil,w0]
 ·have h1:0<n:=by omega
  have h2:¬ ((n:Int)<0):=by omega
  have ap:=Rec.appN (R:=rectR) (el:=⟨39,4,32,.agg ⟨[.int .i64 0,.int .i64 0,.int .i64 0,.int .i64 0]⟩,⟨some true,some 4⟩⟩) (h:=h) (n:=n) (k:=.i64) (a:=zeroR) rfl rfl h1 (by show n * 32≤2 ^ 47;omega)
  have sl:=Rec.slice_row0 (R:=rectR) (e:=39) (t:=39) (g:=some true) (h:=h++[rectR.row 39 (List.replicate n zeroR)]) (b:=h.length) (n:=n) (l:=List.replicate n zeroR) (k:=.i64) rfl (by simp) (by simp)
  simp only [show rectR.m+1=4 from rfl] at ap sl
  simp -implicitDefEqProofs [h0,h1,h2,cap_nil,sn,w0,w1,ap,sl]
theorem rects_concat (x:Bool) (P:List (Option Bool × List (Rect))) (hok:∀ p∈P,Rec.Ok p.1 p.2) (hP:P.length≤1000) (ht:tot P≤1000000) :
  pureCall E.P (L E) 79 [lst x (P.map fun p=>rectR.o p.1 p.2)]=some (rectR.o (if tot P=0 then none else some false) (allP P)):=by
 have okI:∀ (i:Nat) (hi:i<P.length),Rec.Ok (P[i]).1 (P[i]).2:=fun i hi=>hok _ (List.getElem_mem hi)
 have ix:∀ (i:Nat) (hi:i<P.length),indexAddrT (.sl 23 ⟨some false,some 1⟩) (lst x (P.map fun p=>rectR.o p.1 p.2)) (.int .i64 (i:Int))=some (cptr (rectR.o (P[i]).1 (P[i]).2)):=fun i hi=>by
  have e:(P.map fun p=>rectR.o p.1 p.2)[i]?=some (rectR.o (P[i]).1 (P[i]).2):=by simp [hi]
  rw [index_lst,if_pos (by omega),show ((i:Int)).toNat=i by omega,e,Option.bind_some,if_pos (by rw [Rec.o_fits,Rec.o_cells1];rfl)]
 have gr:=rects_grow (tot P)
 rw [pureCall_fn F79 rfl]
 simp -implicitDefEqProofs [r79,padS]
 rw [LL_for (γ:=Nat) P 0 (fun i c=>[(3,.int .i64 (c:Int)),(11,.int .i64 i)]) (fun _ _=>[]) (fun i rest c=>(.exit 0,[(3,.int .i64 ((c+tot rest:Nat):Int)),(11,undef)],[])) (fun i c=>c+tot (P.drop i)≤1000000) (by omega) (by simpa using ht)]
 ·rw [Nat.zero_add]
  simp -implicitDefEqProofs [k79_3,ret2 m98,gr,ht]
  by_cases h0:tot P=0
  ·have hz:=tot_zero h0
   have ha:allP P=[]:=List.eq_nil_of_length_eq_zero (by rw [tot_all,h0])
   simp -implicitDefEqProofs [h0,ha]
   rw [LL_for (γ:=Unit) P () (fun i _=>[(27,.int .i64 i)]) (fun _ _=>[]) (fun _ _ _=>(.exit 2,[(27,undef)],[])) (fun _ _=>True) (by omega) trivial]
   ·simp -implicitDefEqProofs [k79_11,Rec.o]
   ·simp -implicitDefEqProofs [k79_11]
   ·rfl
   ·intro nx i c hi _
    simp -implicitDefEqProofs [r79_11,k79_11,hi,trim_le]
   ·intro nx i p rest c hi hv hd hw _ ih
    have ih:=ih () trivial
    have hp:=okI i hi
    have ixi:=ix i hi
    rw [hv] at hp ixi
    have hpe:=hz p (hv ▸ List.getElem_mem hi)
    have cl:sliceCells [] 4 (rectR.o p.1 p.2)=some ([],0):=(Rec.o_cells (R:=rectR) (s:=4) rfl hp).trans (by rw [hpe];rfl)
    simp -implicitDefEqProofs [k79_11] at ih
    simp -implicitDefEqProofs [r79_11,k79_11,hi,ixi,Rec.o_fits,append_nil,cl,hw,trim_le]
    exact ih
  ·have h1:0<tot P:=by omega
   simp -implicitDefEqProofs [h0]
   rw [LL_for (γ:=List (Rect)) P [] (fun i c=>[(6,.slice (some ⟨0,0,some (tot P * 4)⟩) c.length (tot P)),(27,.int .i64 i)]) (fun _ c=>[rectR.row 39 (c++List.replicate (tot P-c.length) zeroR)])
    (fun _ rest c=>(.exit 2,[(6,.slice (some ⟨0,0,some (tot P * 4)⟩) (c++allP rest).length (tot P)),(27,undef)],[rectR.row 39 ((c++allP rest)++List.replicate (tot P-(c++allP rest).length) zeroR)])) (fun i c=>c.length+tot (P.drop i)=tot P) (by omega) (by simp)]
   ·have e:[]++allP P=allP P:=rfl
    have e2:tot P-(allP P).length=0:=by rw [tot_all];omega
    have rr:=Rec.reify_row (R:=rectR) (P:=E.P) (h:=[rectR.row 39 (allP P)]) (b:=0) (n:=7) (t:=39) (l:=allP P) rfl (by kernel_rfl) (by kernel_rfl)
    rw [e,e2,List.replicate_zero,List.append_nil]
    unfold Rec.sl at rr
    rw [tot_all] at rr ⊢
    simp only [show rectR.m+1=4 from rfl] at rr
    simp -implicitDefEqProofs [k79_11,-reify_slice,rr,Rec.o]
   ·simp -implicitDefEqProofs [k79_11]
   ·simp
   ·intro nx i c hi _
    simp -implicitDefEqProofs [r79_11,k79_11,hi,trim_le,allP]
   ·intro nx i p rest c hi hv hd hw hc ih
    have hr:P.drop (i+1)=rest:=by rw [← List.drop_drop,hd];rfl
    rw [hd] at hc
    have hc':c.length+(p.2.length+tot rest)=tot P:=hc
    have ih:=ih (c++p.2) (by rw [hr,List.length_append];omega)
    have hp:=okI i hi
    have ixi:=ix i hi
    rw [hv] at hp ixi
    have e:c++allP (p :: rest)=c++p.2++allP rest:=by
     show c++(p.2++allP rest)=_
     rw [List.append_assoc]
    have ap:=Rec.app_fill (R:=rectR) (el:=⟨39,4,32,.agg ⟨[.int .i64 0,.int .i64 0,.int .i64 0,.int .i64 0]⟩,⟨some true,some 4⟩⟩) (h:=[rectR.row 39 (c++List.replicate (tot P-c.length) zeroR)]) (lo:=0) (b:=0) (n:=tot P) (r:=tot P-c.length) (t:=39) (acc:=c) (m:=p.2) (z:=zeroR) (u:=rectR.o p.1 p.2)
     rfl rfl (by omega) (Rec.o_cells rfl hp) (Nat.le_refl _) (by omega)
    simp only [show rectR.m+1=4 from rfl] at ap
    have e3:tot P-c.length-p.2.length=tot P-(c++p.2).length:=by rw [List.length_append];omega
    rw [e3] at ap
    rw [e]
    simp -implicitDefEqProofs [k79_11,-List.length_append] at ih
    simp -implicitDefEqProofs [r79_11,k79_11,hi,ixi,Rec.o_fits,ap,hw,trim_le,-List.length_append]
    exact ih
 ·simp -implicitDefEqProofs [k79_3]
 ·rfl
 ·intro nx i c hi _
  simp -implicitDefEqProofs [r79_3,k79_3,hi,trim_le,tot]
 ·intro nx i p rest c hi hv hd hw hc ih
  have hr:P.drop (i+1)=rest:=by rw [← List.drop_drop,hd];rfl
  rw [hd] at hc
  have hc':c+(p.2.length+tot rest)≤1000000:=hc
  have ih:=ih (c+p.2.length) (by rw [hr];omega)
  have w1:IntKind.i64.wrap ((c:Int)+(p.2.length:Int))=((c+p.2.length:Nat):Int):=by rw [wrap64 (by omega) (by omega)];rfl
  have e:c+tot (p :: rest)=c+p.2.length+tot rest:=by show c+(p.2.length+tot rest)=_;omega
  have hp:=okI i hi
  rw [hv] at hp
  have ixi:=ix i hi
  rw [hv] at ixi
  have hneg:¬ (((c+p.2.length:Nat):Int)<0):=by omega
  rw [e]
  simp -implicitDefEqProofs [k79_3,-Int.natCast_add] at ih
  simp -implicitDefEqProofs [r79_3,k79_3,hi,ixi,Rec.o_fits,Rec.o_len hp,w1,hneg,hw,trim_le,-Int.natCast_add]
  exact ih
end Go.Proofs.YtnhdabelepjgbaaGreat.Bm
namespace Go.Proofs.YtnhdabelepjgbaaGreat.Rg
open Bm (compG compI sortI)
def gstep (o:List (Int × Int)) (s:Int × Int):List (Int × Int):=match o.getLast? with
 | some u=>if s.1≤u.2 then o.dropLast++[(u.1,max u.2 s.2)] else o++[s]
 | none=>[s]
theorem gstep_snoc (o:List (Int × Int)) (u s:Int × Int):gstep (o++[u]) s=o++(if s.1≤u.2 then [(u.1,max u.2 s.2)] else [u,s]):=by
 unfold gstep
 rw [List.getLast?_concat]
 simp only
 split
 ·rw [List.dropLast_concat]
 ·rw [List.append_assoc];rfl
theorem gstep_glue:∀ (l:List (Int × Int)) (o:List (Int × Int)) (u:Int × Int),l.foldl gstep (o++[u])=o++glue u l
 | [],o,u=>rfl
 | s :: l,o,u=>by
  rw [List.foldl_cons,gstep_snoc]
  unfold glue
  split
  ·exact gstep_glue l o _
  ·have e:o++[u,s]=(o++[u])++[s]:=by rw [List.append_assoc];rfl
   rw [e,gstep_glue l (o++[u]) s,List.append_assoc];rfl
theorem gstep_col (l:List (Int × Int)):l.foldl gstep []=colF l:=by
 cases l with
 | nil=>rfl
 | cons s l=>exact gstep_glue l [] s
def own (l:List Rect) (x:Int):List (Int × Int):=(l.filter fun r=>decide (r.x0≤x) && decide (x<r.x1)).map fun r=>(r.y0,r.y1)
theorem own_cons (r:Rect) (l:List Rect) (x:Int):own (r :: l) x=(if r.x0≤x∧x<r.x1 then [(r.y0,r.y1)] else [])++own l x:=by
 unfold own
 by_cases h:r.x0≤x∧x<r.x1
 ·rw [if_pos h,List.filter_cons_of_pos (by simpa using h)];rfl
 ·rw [if_neg h,List.filter_cons_of_neg (by simpa using h)];rfl
theorem own_has (l:List Rect) (x y:Int):hasS (own l x) y=cell l x y:=by
 induction l with
 | nil=>rfl
 | cons r l ih =>
  rw [own_cons,hasS_append,ih]
  show _=(r.has x y || cell l x y)
  congr 1
  unfold Rect.has
  by_cases h:r.x0≤x∧x<r.x1
  ·rw [if_pos h]
   simp [hasS,h]
  ·rw [if_neg h,and_no h]
   simp [hasS]
theorem hasS_perm {a b:List (Int × Int)} (h:a.Perm b) (y:Int):hasS a y=hasS b y:=by
 rw [Bool.eq_iff_iff]
 unfold hasS
 simp only [List.any_eq_true]
 exact ⟨fun ⟨s,hs,k⟩=>⟨s,h.mem_iff.1 hs,k⟩,fun ⟨s,hs,k⟩=>⟨s,h.mem_iff.2 hs,k⟩⟩
def colC (l:List Rect) (x:Int):List (Int × Int):=colF (sortS (own l x))
theorem colC_ok {l:List Rect} (hl:∀ r∈l,r.y0<r.y1) (x:Int):Can (colC l x)∧∀ y,hasS (colC l x) y=cell l x y:=by
 have hp:=sortS_sorted (own l x)
 have hs:∀ u∈sortS (own l x),u.1<u.2:=fun u hu=>by
  have hu:=(sortS_perm (own l x)).mem_iff.1 hu
  unfold own at hu
  obtain ⟨r,hr,rfl⟩:=List.mem_map.1 hu
  exact hl r (List.mem_filter.1 hr).1
 refine ⟨colF_can hp hs,fun y=>?_⟩
 unfold colC
 rw [colF_has hp hs,hasS_perm (sortS_perm _),own_has]
theorem colC_len (l:List Rect) (x:Int):(colC l x).length≤l.length:=by
 have glue_len:∀ (l:List (Int × Int)) (s:Int × Int),(glue s l).length≤l.length+1:=by
  intro l
  induction l with
  | nil=>intro s;exact Nat.le_refl _
  | cons u l ih =>
   intro s
   unfold glue
   split
   ·exact Nat.le_succ_of_le (ih _)
   ·exact Nat.succ_le_succ (ih u)
 have h1:(sortS (own l x)).length≤l.length:=by
  rw [(sortS_perm _).length_eq]
  unfold own
  rw [List.length_map];exact List.length_filter_le _ _
 unfold colC
 cases h:sortS (own l x) with
 | nil=>exact Nat.zero_le _
 | cons s m =>
  rw [h] at h1
  exact Nat.le_trans (glue_len m s) h1
theorem compG_mem:∀ (l:List Int) (p:Option Int) (z:Int),z∈compG p l→z∈l
 | [],_,_,h=>by cases h
 | a :: l,p,z,h=>by
  unfold compG at h
  split at h
  ·exact List.mem_cons_of_mem _ (compG_mem l p z h)
  ·rcases List.mem_cons.1 h with rfl | h
   ·exact List.mem_cons_self
   ·exact List.mem_cons_of_mem _ (compG_mem l _ z h)
theorem compG_all:∀ (l:List Int) (p:Option Int) (z:Int),z∈l→z∈compG p l∨p=some z
 | [],_,_,h=>by cases h
 | a :: l,p,z,h=>by
  unfold compG
  split
  ·rename_i e
   rcases List.mem_cons.1 h with rfl | h
   ·exact .inr e
   ·exact compG_all l p z h
  ·rcases List.mem_cons.1 h with rfl | h
   ·exact .inl List.mem_cons_self
   ·rcases compG_all l (some a) z h with k | k
    ·exact .inl (List.mem_cons_of_mem _ k)
    ·cases k;exact .inl List.mem_cons_self
theorem compG_asc:∀ (l:List Int) (p:Option Int),l.Pairwise (·≤·)→(∀ a∈p,∀ z∈l,a≤z)→(compG p l).Pairwise (· < ·)∧∀ a∈p,∀ z∈compG p l,a<z
 | [],_,_,_=>⟨.nil,fun a _ z h=>by cases h⟩
 | b :: l,p,hp,ha=>by
  rw [List.pairwise_cons] at hp
  unfold compG
  split
  ·exact compG_asc l p hp.2 fun a h z hz=>ha a h z (List.mem_cons_of_mem _ hz)
  ·rename_i hne
   obtain ⟨i1,i2⟩:=compG_asc l (some b) hp.2 fun a h z hz=>by cases h;exact hp.1 z hz
   refine ⟨List.pairwise_cons.2 ⟨fun z hz=>i2 b rfl z hz,i1⟩,fun a h z hz=>?_⟩
   have hab:=ha a h b List.mem_cons_self
   have hne':a≠b:=fun e=>hne (by rw [← e];exact h)
   rcases List.mem_cons.1 hz with rfl | hz
   ·omega
   ·have:=i2 b rfl z hz;omega
theorem comp_sort (l:List Int):compI (sortI l)=sortU l:=by
 obtain ⟨h1,_⟩:=compG_asc (sortI l) none (Bm.sortI_sorted l) fun a h=>by cases h
 refine asc_ext h1 (sortU_asc l) fun z=>?_
 rw [sortU_mem,← (Bm.sortI_perm l).mem_iff]
 exact ⟨compG_mem _ _ z,fun h=>(compG_all _ none z h).resolve_right fun k=>by cases k⟩
theorem runs_step {s u:Slab} {T:List Slab} (h:u.col=s.col):outT (runs s (u :: T))=outT (runs ⟨s.x0,u.x1,s.col⟩ T):=by
 rw [runs,if_pos h]
theorem emit_nil {s:Slab} (h:s.col=[]):emit s=[]:=by unfold emit;rw [h];rfl
theorem runs_stop {s u:Slab} {T:List Slab} (h:u.col≠s.col):outT (runs s (u :: T))=emit s++outT (runs u T):=by
 rw [runs,if_neg h]
 split
 ·rename_i e;rw [emit_nil e];rfl
 ·rfl
theorem runs_end {s:Slab}:outT (runs s [])=emit s:=by
 rw [runs]
 split
 ·rename_i e;rw [emit_nil e];rfl
 ·show emit s++[]=_;rw [List.append_nil]
end Go.Proofs.YtnhdabelepjgbaaGreat.Rg
namespace Go.Proofs.YtnhdabelepjgbaaGreat.Bm
open Go Go.RowKit
open Rg (Rect Slab own own_cons gstep colC)
theorem s59:szOf E.P 124=some 2:=by kernel_rfl
theorem a59:aggT E.P 124=some true:=by kernel_rfl
theorem lit_span (h:Heap) (a b:Int):buildSliceT (some ⟨124,2,16,.agg ⟨[.int .i64 0,.int .i64 0]⟩,⟨some true,some 2⟩⟩) false h 1 #[(0,.agg ⟨[.int .i64 a,.int .i64 b]⟩)]=some (lst true [.agg ⟨[.int .i64 a,.int .i64 b]⟩],h) :=
 (build_lit' (n:=1) (l:=[(0,.agg ⟨[.int .i64 a,.int .i64 b]⟩)]) rfl rfl (by decide) (by decide) (by decide)).trans rfl
theorem app_span {h:Heap} {b:Nat} {c:List (Int × Int)} (u v:Int) (hob:h[b]?=some (spanR.row 124 c)) (hc:c.length≤1000000) :
  appendT (some ⟨124,2,16,.agg ⟨[.int .i64 0,.int .i64 0]⟩,⟨some true,some 2⟩⟩) h 0 false (spanR.sl b c) (lst true [.agg ⟨[.int .i64 u,.int .i64 v]⟩])=some (spanR.sl b (c++[(u,v)]),h.set b (spanR.row 124 (c++[(u,v)]))) :=
 Rec.app (R:=spanR) (m:=[(u,v)]) rfl hob (Rec.cells_tree (R:=spanR) rfl [(u,v)]) (Nat.zero_le _) (by show (c.length+1) * 16≤2 ^ 47;omega)
theorem set_same {h:Heap} {b:Nat} {o:AObj} (hob:h[b]?=some o):h.set b o=h:=by
 refine List.ext_getElem? fun i=>?_
 rw [List.getElem?_set]
 split
 ·rename_i e;subst e
  split
  ·exact hob.symm
  ·rename_i hlt;rw [List.getElem?_eq_none (by omega)]
 ·rfl
theorem sort_spec {h:Heap} {b lo:Nat} {d:List (Int × Int)} (hob:h[b]?=some (spanR.row 124 d)) (hlo:lo≤b) (hd:d.length≤1000000) :
  L E 104 [spanR.sl b d,.func (.func 105) ⟨[]⟩ ⟨[]⟩] h lo=some (.tuple #[],h.set b (spanR.row 124 (sortS d))):=by
 rw [L_orc (g:=inC 105 2 sortSF) rfl]
 unfold inC Rec.sl
 simp only
 rw [if_pos ⟨trivial,Nat.le_refl _⟩]
 by_cases h0:d.length=0
 ·have:d=[]:=List.eq_nil_of_length_eq_zero h0
  subst this
  rw [if_pos h0]
  have e:sortS []=[]:=List.eq_nil_of_length_eq_zero (sortS_perm []).length_eq
  rw [e,set_same hob]
 ·rw [if_neg h0]
  have hob':h[b]?=some (.cells 124 (spanR.flat d) 2):=hob
  have hl:(spanR.flat d).length=d.length * 2:=Rec.flat_len
  unfold inCR
  simp only [hob']
  have e1:(spanR.flat d).take (d.length * 2)=d.flatMap spanV:=by rw [List.take_of_length_le (by omega)];rfl
  rw [e1,sortSF_flat,Option.bind_some,if_pos ⟨hlo,by unfold stampOk;rw [hl];simp [spanR],trivial,by omega,by omega⟩]
  rw [List.drop_of_length_le (by omega),List.append_nil];rfl
theorem own_len (l:List Rect) (x:Int):(own l x).length≤l.length:=by
 unfold own
 rw [List.length_map];exact List.length_filter_le _ _
theorem gstep_set {o:List (Int × Int)} {m:Nat} (hm:o.length=m+1) (t:Int × Int) (h:t.1≤(o[m]'(by omega)).2):gstep o t=o.set m ((o[m]'(by omega)).1,max (o[m]'(by omega)).2 t.2):=by
 have ho:o.getLast?=some (o[m]'(by omega)):=by
  have hl:o.length-1=m:=by omega
  have hm':m<o.length:=by omega
  rw [List.getLast?_eq_getElem?,hl,List.getElem?_eq_getElem hm']
 unfold gstep
 rw [ho]
 simp only
 rw [if_pos h]
 apply List.ext_getElem?
 intro i
 by_cases e:i=m
 ·subst e
  rw [List.getElem?_append_right (by simp [hm]),List.getElem?_set_self (by omega)]
  simp [hm]
 ·rw [List.getElem?_set_ne (Ne.symm e)]
  by_cases hi:i<m
  ·rw [List.getElem?_append_left (by simp [hm];omega),List.getElem?_dropLast,if_pos (by omega)]
  ·rw [List.getElem?_eq_none (by simp [hm];omega),List.getElem?_eq_none (by omega)]
theorem gstep_add {o:List (Int × Int)} {m:Nat} (hm:o.length=m+1) (t:Int × Int) (h:¬ t.1≤(o[m]'(by omega)).2):gstep o t=o++[t]:=by
 have ho:o.getLast?=some (o[m]'(by omega)):=by
  have hl:o.length-1=m:=by omega
  have hm':m<o.length:=by omega
  rw [List.getLast?_eq_getElem?,hl,List.getElem?_eq_getElem hm']
 unfold gstep
 rw [ho]
 simp only
 rw [if_neg h]
theorem gstep_len (o:List (Int × Int)) (t:Int × Int):(gstep o t).length≤o.length+1:=by
 unfold gstep
 split
 ·split
  ·simp
  ·simp
 ·simp
theorem sl_eq {b:Nat} {c d:List (Int × Int)} (h:c.length=d.length):spanR.sl b c=spanR.sl b d:=by unfold Rec.sl;rw [h]
theorem max_int (a b:Int):aMinMax true [.int .i64 a,.int .i64 b]=some (.int .i64 (max a b)):=by
 show some (Value.int .i64 (if b > a then b else a))=_
 congr 2
 omega
theorem column_spec (k:Option Bool) (l:List Rect) (x:Int) (hk:Rec.Ok k l) (hl:l.length≤1000):pureCall E.P (L E) 97 [rectR.o k l,.int .i64 x]=some (colV (colC l x)):=by
 rw [pureCall_fn F97 rfl]
 simp -implicitDefEqProofs [r97,p97,prep_new,newK_nil s59,Rec.o_len hk]
 rw [LL_for (γ:=List (Int × Int)) l [] (fun i c=>[(5,spanR.sl 0 c),(14,.int .i64 i)]) (fun _ c=>[spanR.row 124 c])
  (fun _ rest c=>(.exit 0,[(5,spanR.sl 0 (c++own rest x)),(14,undef)],[spanR.row 124 (c++own rest x)])) (fun i c=>c.length≤i) (by omega) (Nat.le_refl _)]
 ·rw [List.nil_append]
  have hs:=fun h=>sort_spec (h:=[spanR.row 124 (own l x)]++h) (b:=0) (lo:=0) (d:=own l x) rfl (Nat.le_refl _) (by have:=own_len l x;omega)
  have hs:=hs []
  rw [List.append_nil] at hs
  have hse:(own l x).length=(sortS (own l x)).length:=(sortS_perm _).length_eq.symm
  have hle:=own_len l x
  simp -implicitDefEqProofs [k97_3,ret2 (E:=E) (f:=104) rfl,hs,prep_new,newK_nil s59,Rec.sl_len]
  rw [sl_eq (b:=0) hse,hse]
  have hc:colC l x=(sortS (own l x)).foldl gstep []:=(Rg.gstep_col _).symm
  rw [hc]
  rw [hse] at hle
  clear hs hse hc
  generalize sortS (own l x)=s at hle ⊢
  rw [LL_for (γ:=List (Int × Int)) s [] (fun i o=>[(8,spanR.sl 1 o),(41,.int .i64 i)]) (fun _ o=>[spanR.row 124 s,spanR.row 124 o])
   (fun _ rest o=>(.exit 2,[(8,spanR.sl 1 (rest.foldl gstep o)),(41,undef)],[spanR.row 124 s,spanR.row 124 (rest.foldl gstep o)])) (fun i o=>o.length≤i) (by omega) (Nat.le_refl _)]
  ·have rr:=Rec.reifyR_row (R:=spanR) (P:=E.P) (h:=[spanR.row 124 s,spanR.row 124 (s.foldl gstep [])]) (b:=1) (t:=124) (l:=s.foldl gstep []) rfl s59 a59
   simp -implicitDefEqProofs [k97_11,rr,colV]
  ·simp -implicitDefEqProofs [k97_11,Rec.sl_nil]
  ·rfl
  ·intro nx i o hi _
   simp -implicitDefEqProofs [r97_11,k97_11,hi,trim_le]
  ·intro nx i t rest o hi hv hd hw ho ih
   have ih:=ih (gstep o t) (by have:=gstep_len o t;omega)
   simp -implicitDefEqProofs [k97_11] at ih
   rw [List.foldl_cons]
   have ixs:=Rec.index_row (R:=spanR) (h0:=2) (t:=124) (g:=some true) (b:=0) (l:=s) (i:=i) (k:=.i64) rfl hi
   have lds:=Rec.load_row (R:=spanR) (h:=[spanR.row 124 s,spanR.row 124 o]) (b:=0) (n:=2) (t:=124) (l:=s) (i:=i) rfl rfl hi
   rw [hv,span_val] at lds
   have ap:=fun q=>app_span (h:=[spanR.row 124 s,spanR.row 124 o,q]) (b:=1) (c:=o) t.1 t.2 rfl (by omega)
   by_cases h0:o=[]
   ·subst h0
    have e:gstep [] t=[]++[(t.1,t.2)]:=rfl
    rw [e] at ih ⊢
    simp -implicitDefEqProofs [r97_11,k97_11,hi,ixs,lds,Rec.sl_len,lit_span,ap,hw,trim_cut,Rec.sl_bel,Rec.row_bel,Rec.o_bel]
    simpa using ih
   ·obtain ⟨m,hm⟩:∃ m,o.length=m+1:=⟨o.length-1,by have:=List.length_pos_iff.2 h0;omega⟩
    have hm':m<o.length:=by omega
    have w1:IntKind.i64.wrap ((o.length:Int)-1)=(m:Int):=by rw [wrap64 (by omega) (by omega)];omega
    have hpos:0<o.length:=by omega
    have ixo:=Rec.index_row (R:=spanR) (h0:=2) (t:=124) (g:=some true) (b:=1) (l:=o) (i:=m) (k:=.i64) rfl hm'
    have fdo:=Rec.field_row (R:=spanR) (b:=1) (n:=0) (f:=1) (l:=o) (i:=m) (k:=⟨some true,some 2⟩) (g:=some false)
    have ldo:=fun q=>Rec.load_cell (R:=spanR) (h:=[spanR.row 124 s,spanR.row 124 o,q]) (b:=1) (j:=1) (t:=124) (l:=o) (i:=m) (sz:=some 1) rfl hm' (by decide)
    have e1:(spanR.enc o[m])[1]?=some (.int .i64 o[m].2):=rfl
    simp only [e1] at ldo
    have sto:=fun q (v:Int)=>Rec.store_cell (R:=spanR) (h:=[spanR.row 124 s,spanR.row 124 o,q]) (b:=1) (j:=1) (lo:=0) (t:=124) (l:=o) (i:=m) (v:=.int .i64 v) (a:=(o[m].1,v)) rfl rfl (Nat.zero_le _) hm' (by decide) rfl
    by_cases h1:t.1≤o[m].2
    ·rw [gstep_set hm t h1] at ih ⊢
     have el:spanR.sl 1 (o.set m (o[m].1,max o[m].2 t.2))=spanR.sl 1 o:=sl_eq (by simp)
     rw [el] at ih
     simp -implicitDefEqProofs [r97_11,k97_11,hi,ixs,lds,Rec.sl_len,hpos,w1,ixo,fdo,ldo,sto,h1,max_int,hw,trim_cut,Rec.sl_bel,Rec.row_bel,Rec.o_bel]
     exact ih
    ·rw [gstep_add hm t h1] at ih ⊢
     simp -implicitDefEqProofs [r97_11,k97_11,hi,ixs,lds,Rec.sl_len,hpos,w1,ixo,fdo,ldo,h1,lit_span,ap,hw,trim_cut,Rec.sl_bel,Rec.row_bel,Rec.o_bel]
     exact ih
 ·simp -implicitDefEqProofs [k97_3,Rec.sl_nil]
 ·rfl
 ·intro nx i c hi _
  simp -implicitDefEqProofs [r97_3,k97_3,hi,trim_le,own]
 ·intro nx i r rest c hi hv hd hw hc ih
  have ixi:=Rec.o_index (R:=rectR) (t:=39) (kk:=.i64) (s:=4) rfl hk hi
  rw [hv] at ixi
  have ap:=fun o=>app_span (h:=[spanR.row 124 c,o]) (b:=0) (c:=c) r.y0 r.y1 rfl (by omega)
  rw [own_cons]
  by_cases h1:r.x0≤x
  ·by_cases h2:x<r.x1
   ·have ih:=ih (c++[(r.y0,r.y1)]) (by simp;omega)
    rw [if_pos ⟨h1,h2⟩,← List.append_assoc]
    simp -implicitDefEqProofs [k97_3,-List.append_assoc] at ih
    simp -implicitDefEqProofs [r97_3,k97_3,hi,ixi,rect_val,h1,h2,b2_all,lit_span,ap,hw,trim_cut,Rec.sl_bel,Rec.row_bel,Rec.o_bel,-List.append_assoc]
    exact ih
   ·have ih:=ih c (by omega)
    rw [if_neg (fun e=>h2 e.2),List.nil_append]
    simp -implicitDefEqProofs [k97_3] at ih
    simp -implicitDefEqProofs [r97_3,k97_3,hi,ixi,rect_val,h1,h2,hw,trim_cut,Rec.sl_bel,Rec.row_bel,Rec.o_bel]
    exact ih
  ·have ih:=ih c (by omega)
   rw [if_neg (fun e=>h1 e.1),List.nil_append]
   simp -implicitDefEqProofs [k97_3] at ih
   simp -implicitDefEqProofs [r97_3,k97_3,hi,ixi,rect_val,h1,hw,trim_cut,Rec.sl_bel,Rec.row_bel,Rec.o_bel]
   exact ih
def intR:Rec Int where
 enc a:=[.int .i64 a]
 m:=0
 len _:=rfl
 set _:=rfl
 bel _ _:=rfl
theorem int_flat (l:List Int):intR.flat l=l.map (.int .i64):=by
 induction l with
 | nil=>rfl
 | cons a l ih=>show Value.int .i64 a :: intR.flat l=_;rw [ih];rfl
theorem lit_two (h:Heap) (a b:Int):buildSliceT (some ⟨3,1,8,.int .i64 0,⟨some false,some 1⟩⟩) false h 2 #[(0,.int .i64 a),(1,.int .i64 b)]=some (lst true [.int .i64 a,.int .i64 b],h) :=
 (build_lit' (n:=2) (l:=[(0,.int .i64 a),(1,.int .i64 b)]) rfl rfl (by decide) (by decide) (by decide)).trans rfl
theorem sortInts {h:Heap} {b lo:Nat} {d:List Int} (hob:h[b]?=some (intR.row 3 d)) (hlo:lo≤b) (hd:d.length≤1000000) :
  L E 18 [intR.sl b d] h lo=some (.tuple #[],h.set b (intR.row 3 (sortI d))):=by
 rw [L_orc (g:=inG sortI none) rfl]
 by_cases h0:d.length=0
 ·have:d=[]:=List.eq_nil_of_length_eq_zero h0
  subst this
  have e:h.set b (intR.row 3 (sortI []))=h:=set_same hob
  rw [e]
  rfl
 ·have hob':h[b]?=some (.cells 3 ((d++[]).map (.int .i64)) (0+1)):=by
   rw [List.append_nil,← int_flat];exact hob
  have key:=inG_ints (F:=sortI) (N:=none) (lo:=lo) (k:=d.length) (n:=d.length) (c:=d.length) (zs:=d) (ys:=[]) hob' hlo (by simp) rfl h0 (by omega)
  have e1:intR.sl b d=.slice (some ⟨b,0,some d.length⟩) d.length d.length:=by unfold Rec.sl;simp [intR]
  rw [e1,key]
  congr 2
  unfold Rec.row
  rw [List.append_nil,int_flat];rfl
def preS (b n:Nat) (e:List Int):Value:=.slice (some ⟨b,0,some n⟩) e.length n
theorem compInts {h:Heap} {b lo:Nat} {d:List Int} (hob:h[b]?=some (intR.row 3 d)) (hlo:lo≤b) (hd:d.length≤1000000) :
  ∃ r,L E 19 [intR.sl b d] h lo=some (preS b d.length (compI d),h.set b (intR.row 3 (compI d++r)))∧(compI d++r).length=d.length:=by
 rw [L_orc (g:=inG compF (some compN)) rfl]
 by_cases h0:d.length=0
 ·have:d=[]:=List.eq_nil_of_length_eq_zero h0
  subst this
  refine ⟨[],?_,rfl⟩
  have e:h.set b (intR.row 3 (compI []++[]))=h:=set_same hob
  rw [e]
  rfl
 ·have hob':h[b]?=some (.cells 3 ((d++[]).map (.int .i64)) (0+1)):=by
   rw [List.append_nil,← int_flat];exact hob
  have key:=inG_ints (F:=compF) (N:=some compN) (lo:=lo) (k:=d.length) (n:=d.length) (c:=d.length) (zs:=d) (ys:=[]) hob' hlo (by simp) rfl h0 (by omega)
  have e1:intR.sl b d=.slice (some ⟨b,0,some d.length⟩) d.length d.length:=by unfold Rec.sl;simp [intR]
  refine ⟨List.replicate (d.length-(compI d).length) 0,?_,compF_len d⟩
  rw [e1,key]
  congr 2
  unfold Rec.row
  rw [List.append_nil,int_flat];rfl
theorem pre_len {h:Heap} {b n:Nat} {e:List Int}:lenT .sl h (preS b n e)=some (.int .i64 e.length):=rfl
theorem pre_bel {m d b n:Nat} {e:List Int} (h:b<m):below (d+1) m (preS b n e)=true:=decide_eq_true h
theorem pre_index {t:TypeId} {g:Option Bool} {b n i:Nat} {e:List Int} {k:IntKind} (h1:i<e.length):indexAddrT (.sl t ⟨g,some 1⟩) (preS b n e) (.int k (i:Int))=some (.pointer (some ⟨b,i,some n⟩)):=by
 unfold preS
 rw [index_slice,if_pos ⟨by omega,by omega⟩]
 simp [shift]
theorem pre_load {h:Heap} {b n i:Nat} {e r:List Int} {sz:Option Nat} (hob:h[b]?=some (intR.row 3 (e++r))) (hn:(e++r).length=n) (h1:i<e.length):loadT ⟨some false,sz⟩ h (.pointer (some ⟨b,i,some n⟩))=some (.int .i64 e[i]):=by
 subst hn
 have key:=Rec.load_cell (R:=intR) (h:=h) (b:=b) (j:=0) (t:=3) (l:=e++r) (i:=i) (sz:=sz) hob (by rw [List.length_append];omega) (by decide)
 unfold Rec.at_ at key
 have e1:(e++r)[i]'(by rw [List.length_append];omega)=e[i]:=List.getElem_append_left h1
 simp only [e1,show intR.m+1=1 from rfl,Nat.mul_one,Nat.add_zero] at key
 exact key
open Rg (ends keepS addS sortU)
end Go.Proofs.YtnhdabelepjgbaaGreat.Bm
namespace Go.Proofs.YtnhdabelepjgbaaGreat.Rg
open Bm (inB inB_has atO colL pslab bs bs_ok)
def edgesX (l:List Rect):List Int:=sortU (l.flatMap fun r=>[r.x0,r.x1])
theorem edgesX_all (l:List Rect):EdgesX l (edgesX l):=fun r hr=>by
 unfold edgesX
 rw [sortU_mem,sortU_mem]
 exact ⟨List.mem_flatMap.2 ⟨r,hr,by simp⟩,List.mem_flatMap.2 ⟨r,hr,by simp⟩⟩
theorem EdgesX.mono {l m:List Rect} {xs:List Int} (h:EdgesX m xs) (hlm:∀ r∈l,r∈m):EdgesX l xs:=fun r hr=>h r (hlm r hr)
def stripsL (l:List Rect):List Slab:=stripL (colC l) (edgesX l)
def ofL (l:List Rect):List Rect:=outT (runsF (stripsL l))
theorem edgesX_len (l:List Rect):(edgesX l).length≤2 * l.length:=by
 have h:∀ (z:Int) (m:List Int),(insU z m).length≤m.length+1:=by
  intro z m
  induction m with
  | nil=>exact Nat.le_refl _
  | cons a m ih =>
   unfold insU
   split
   ·exact Nat.le_refl _
   ·split
    ·exact Nat.le_succ _
    ·exact Nat.succ_le_succ ih
 have k:∀ (m:List Int),(sortU m).length≤m.length:=by
  intro m
  induction m with
  | nil=>exact Nat.le_refl _
  | cons a m ih=>exact Nat.le_trans (h a _) (Nat.succ_le_succ ih)
 refine Nat.le_trans (k _) ?_
 induction l with
 | nil=>exact Nat.le_refl _
 | cons r l ih =>
  have e:((r :: l).flatMap fun r=>[r.x0,r.x1]).length=2+(l.flatMap fun r=>[r.x0,r.x1]).length:=by
   rw [List.flatMap_cons,List.length_append];rfl
  have e2:(r :: l).length=l.length+1:=rfl
  rw [e,e2];omega
theorem stripL_len (c:Int→List (Int × Int)):∀ (xs:List Int),(stripL c xs).length=xs.length-1
 | []=>rfl
 | [_]=>rfl
 | a :: b :: xs=>by
  show (stripL c (b :: xs)).length+1=_
  rw [stripL_len c (b :: xs)];simp
theorem ofL_ok {l:List Rect} (hl:∀ r∈l,r.y0<r.y1):Form (ofL l)∧∀ x y,cell (ofL l) x y=cell l x y :=
 strips_form (cell_steps l) (sortU_asc _) (edgesX_all l) (colC l) (fun x=>(colC_ok hl x).1) fun x _ y=>(colC_ok hl x).2 y
theorem hasS_const {c:List (Int × Int)} {y y':Int} (h:∀ s∈c,(s.1≤y↔s.1≤y')∧(y<s.2↔y'<s.2)):hasS c y=hasS c y':=any_ext fun s hs=>by
 obtain ⟨h1,h2⟩:=h s hs
 simp only [h1,h2]
theorem hasS_out {c:List (Int × Int)} {y:Int} (h:∀ s∈c,¬ (s.1≤y∧y<s.2)):hasS c y=false:=List.any_eq_false.2 fun s hs=>by
 have:=h s hs
 simp only [Bool.and_eq_true,decide_eq_true_eq]
 exact this
theorem ends_mem {c:List (Int × Int)} {s:Int × Int} (h:s∈c):s.1∈ends c∧s.2∈ends c:=⟨List.mem_flatMap.2 ⟨s,h,by simp⟩,List.mem_flatMap.2 ⟨s,h,by simp⟩⟩
def mergeC (f:Bool→Bool→Bool) (a b:List (Int × Int)):List (Int × Int):=keepS (fun y=>f (inB a y) (inB b y)) [] (sortU (ends (a++b)))
theorem mergeC_ok (f:Bool→Bool→Bool) (hf:f false false=false) {a b:List (Int × Int)} (ha:Can a) (hb:Can b):Can (mergeC f a b)∧∀ y,hasS (mergeC f a b) y=f (hasS a y) (hasS b y):=by
 unfold mergeC
 have hp:=sortU_asc (ends (a++b))
 have hm:∀ s,(s∈a∨s∈b)→s.1∈sortU (ends (a++b))∧s.2∈sortU (ends (a++b)):=fun s hs=>by
  rw [sortU_mem,sortU_mem]
  exact ends_mem (List.mem_append.2 hs)
 generalize sortU (ends (a++b))=ys at hp hm
 have ek:(fun y=>f (inB a y) (inB b y))=fun y=>f (hasS a y) (hasS b y):=funext fun y=>by rw [inB_has ha,inB_has hb]
 rw [ek]
 refine ⟨?_,fun y=>keepS_has _ (fun y=>f (hasS a y) (hasS b y)) ys hp (fun u v ⟨p,q,e⟩ y hy hyv=>?_) (fun y hy=>?_) (fun y hy=>?_) y⟩
 ·cases ys with
  | nil=>trivial
  | cons z ys=>exact (keepS_ok _ (z :: ys) [] z hp ⟨trivial,fun s hs=>by cases hs⟩ fun b hb=>by
    rcases List.mem_cons.1 hb with rfl | hb
    ·exact Int.le_refl _
    ·exact Int.le_of_lt ((List.pairwise_cons.1 hp).1 b hb)).1
 ·have key:∀ s,(s∈a∨s∈b)→(s.1≤y↔s.1≤u)∧(y<s.2↔u<s.2):=fun s hs=>by
   have q0:=between hp e (hm s hs).1
   have q1:=between hp e (hm s hs).2
   omega
  show f (hasS a y) (hasS b y)=f (hasS a u) (hasS b u)
  rw [hasS_const (fun s hs=>key s (.inl hs)),hasS_const (fun s hs=>key s (.inr hs))]
 ·show f (hasS a y) (hasS b y)=false
  rw [hasS_out (c:=a) fun s hs h=>by have:=hy _ (hm s (.inl hs)).1;omega,hasS_out (c:=b) fun s hs h=>by have:=hy _ (hm s (.inr hs)).1;omega,hf]
 ·show f (hasS a y) (hasS b y)=false
  rw [hasS_out (c:=a) fun s hs h=>by have:=hy _ (hm s (.inl hs)).2;omega,hasS_out (c:=b) fun s hs h=>by have:=hy _ (hm s (.inr hs)).2;omega,hf]
def opC (f:Bool→Bool→Bool) (a b:List Rect) (x:Int):List (Int × Int):=mergeC f (colL (atO (stripsL a) x)) (colL (atO (stripsL b) x))
def opL (f:Bool→Bool→Bool) (a b:List Rect):List Rect:=outT (runsF (stripL (opC f a b) (edgesX (a++b))))
end Go.Proofs.YtnhdabelepjgbaaGreat.Rg
