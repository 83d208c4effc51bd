/-
 Drawings, plain: when one is well-formed; that its numbers are then within bounds. Conditions: none.
-/
import Derived.Test.YtplebjehcgcdeaaGreatDoorQU16
import Derived.Test.YtplebjehcgcdeaaGreatDoorQU18
import Derived.Test.YtplebjehcgcdeaaGreatDoorQU17
import Derived.Lib.IndexMore
namespace Go.Proofs.YtplebjehcgcdeaaGreatDoor.Bm
open Go Go.RowKit
variable {h:Heap} {P:Program}
def cAt (b j:Nat):Value:=.pointer (some ⟨b,j,none⟩)
theorem obj_row {b:Nat} {t:TypeId} {c:List Value} (hob:h[b]?=some (.cells t c 0)) {j:Nat}:rowOf h ⟨b,j,none⟩=some c:=by
 unfold rowOf
 show (match h[b]? with | some (.cells _ c g)=>_ | _=>none)=_
 rw [hob];rfl
theorem obj_load {b j:Nat} {t:TypeId} {c:List Value} {v:Value} {sz:Option Nat} (hob:h[b]?=some (.cells t c 0)) (hc:c[j]?=some v):loadT ⟨some false,sz⟩ h (cAt b j)=some v:=by
 unfold cAt
 rw [load_one,obj_row hob,Option.bind_some,hc]
theorem obj_store {b j lo:Nat} {t:TypeId} {c:List Value} {v:Value} (hob:h[b]?=some (.cells t c 0)) (hj:j<c.length) (hlo:lo≤b) (hv:cellsOf v=some [v]):storeT (some 1) h lo v (cAt b j)=some (h.set b (.cells t (c.set j v) 0)):=by
 unfold cAt
 rw [store_ptr,hv,Option.bind_some,if_pos (show 1=[v].length from rfl)]
 unfold wrN
 show (match h[b]? with | some (.cells t c g)=>_ | _=>none)=_
 rw [hob]
 show (if _ then _ else none)=_
 rw [if_pos ⟨hlo,rfl,by simp,by simp;omega⟩]
 show some (h.set b (.cells t (splice c j [v]) 0))=_
 rw [splice_one hj]
theorem obj_all {b n:Nat} {t:TypeId} {c:List Value} (hob:h[b]?=some (.cells t c 0)) (hn:c.length=n):loadT ⟨some true,some n⟩ h (cAt b 0)=some (.agg ⟨c⟩):=by
 unfold cAt
 rw [load_agg,obj_row hob,Option.bind_some]
 show (if 0+n≤c.length then some (Value.agg ((c.drop 0).take n).toArray) else none)=_
 rw [if_pos (by omega),List.drop_zero,List.take_of_length_le (by omega)]
theorem obj_put {b n lo:Nat} {t:TypeId} {c d:List Value} (hob:h[b]?=some (.cells t c 0)) (hn:c.length=n) (hd:d.length=n) (h0:0<n) (hlo:lo≤b):storeT (some n) h lo (.agg ⟨d⟩) (cAt b 0)=some (h.set b (.cells t d 0)):=by
 unfold cAt
 rw [store_ptr,cellsOf_agg,Option.bind_some,if_pos hd.symm]
 unfold wrN
 show (match h[b]? with | some (.cells t c g)=>_ | _=>none)=_
 rw [hob]
 show (if _ then _ else none)=_
 rw [if_pos ⟨hlo,rfl,by show 0<d.length;omega,by show 0+d.length≤c.length;omega⟩]
 show some (h.set b (.cells t (splice c 0 d) 0))=_
 unfold splice
 rw [List.take_zero,List.nil_append,List.drop_of_length_le (by omega),List.append_nil]
end Go.Proofs.YtplebjehcgcdeaaGreatDoor.Bm
namespace Go.Proofs.YtplebjehcgcdeaaGreatDoor.Dw
open Go Go.Lib
abbrev itoL:=Bm.itoL
def inR (n:Int):Prop:=-9223372036854775808≤n∧n≤9223372036854775807
instance (n:Int):Decidable (inR n):=by unfold inR;infer_instance
theorem atoi_inR {l:List UInt8} {n:Int} (h:atoiAll l=.ok n):inR n:=by
 unfold atoiAll at h
 split at h
 ·cases h
 ·rename_i c r
  simp only at h
  split at h
  ·cases h
  ·cases h
  ·split at h
   ·cases h
   ·split at h
    ·cases h
    ·rename_i u _ h1 h2
     injection h with h
     subst h
     unfold inR
     split <;> omega
theorem index_some:∀ (l:List UInt8) (e:UInt8),0≤indexByte l e→∃ i:Nat,indexByte l e=i∧l=l.take i++e :: l.drop (i+1)
 | [],e,h=>by simp [indexByte] at h
 | x :: l,e,h=>by
  by_cases hx:x=e
  ·subst hx
   exact ⟨0,by simp [indexByte],by simp⟩
  ·have hge:=indexByte_ge l e
   have e1:indexByte (x :: l) e=if indexByte l e = -1 then -1 else indexByte l e+1:=by
    conv=>lhs;unfold indexByte
    simp [hx]
   have h0:0≤indexByte l e:=by
    rw [e1] at h
    split at h <;> omega
   obtain ⟨i,h1,h2⟩:=index_some l e h0
   refine ⟨i+1,?_,?_⟩
   ·rw [e1,if_neg (by omega),h1];omega
   ·simp only [List.take_succ_cons,List.drop_succ_cons,List.cons_append]
    rw [← h2]
abbrev RS:=List UInt8 × Bool
def numP (e:UInt8) (least:Int) (l:List UInt8):Option (Int × List UInt8) :=
 if indexByte (l.take 21) e<0 then none else
 match atoiAll ((l.take 21).take (indexByte (l.take 21) e).toNat) with
 | .ok n=>if itoL n=(l.take 21).take (indexByte (l.take 21) e).toNat∧least≤n then some (n,l.drop ((indexByte (l.take 21) e).toNat+1)) else none
 | _=>none
def numS (e:UInt8) (least:Int) (s:RS):Int × RS:=match numP e least s.1 with
 | some r=>(r.1,(r.2,s.2))
 | none=>(0,([],true))
def closeS (c:UInt8) (s:RS):RS:=match s.1 with
 | x :: r=>if x=c then (r,s.2) else ([],true)
 | []=>([],true)
def textS (s:RS):List UInt8 × RS :=
 let a:=numS 58 0 s
 if (a.2.1.length:Int)<a.1 then ([],([],true)) else
 let s2:=closeS 44 (a.2.1.drop a.1.toNat,a.2.2)
 if s2.2 then ([],s2) else (a.2.1.take a.1.toNat,s2)
def minI:Int:=-9223372036854775808
def itemsL:Nat→RS→List Int→List Int × RS
 | 0,s,out=>(out,s)
 | n+1,s,out=>if s.2 then (out,s) else itemsL n (numS 59 minI s).2 (out++[(numS 59 minI s).1])
def numsS (s:RS):List Int × RS :=
 let a:=numS 91 0 s
 let b:=itemsL a.1.toNat a.2 []
 let s3:=closeS 93 b.2
 if s3.2 then ([],s3) else (b.1,s3)
theorem numP_some {e:UInt8} {least n:Int} {l r:List UInt8} (h:numP e least l=some (n,r)):l=itoL n++e :: r∧inR n∧least≤n:=by
 unfold numP at h
 split at h
 ·cases h
 ·rename_i h0
  obtain ⟨i,hi,hl⟩:=index_some (l.take 21) e (by omega)
  rw [hi] at h
  simp only [Int.toNat_natCast] at h
  split at h
  ·rename_i m hm
   split at h
   ·rename_i hc
    simp only [Option.some.injEq,Prod.mk.injEq] at h
    obtain ⟨rfl,rfl⟩:=h
    refine ⟨?_,atoi_inR hm,hc.2⟩
    rw [hc.1]
    have hlen:i<(l.take 21).length:=by
     have:=congrArg List.length hl
     simp only [List.length_append,List.length_cons,List.length_take,List.length_drop] at this
     simp only [List.length_take]
     omega
    have hi21:i<21:=by simp only [List.length_take] at hlen;omega
    have hil:i<l.length:=by simp only [List.length_take] at hlen;omega
    have e1:(l.take 21).take i=l.take i:=by rw [List.take_take,Nat.min_eq_left (by omega)]
    have e2:(l.take 21)[i]?=some e:=by
     rw [hl,List.getElem?_append_right (by simp only [List.length_take];omega)]
     simp only [List.length_take]
     rw [show i-min i (min 21 l.length)=0 by omega]
     rfl
    rw [List.getElem?_take,if_pos hi21] at e2
    rw [e1]
    have e3:l.drop i=e :: l.drop (i+1):=by
     rw [List.drop_eq_getElem_cons hil]
     congr 1
     rw [List.getElem?_eq_getElem hil] at e2
     exact Option.some.inj e2
    rw [← e3,List.take_append_drop]
   ·cases h
  ·cases h
theorem numS_ge {e:UInt8} {least:Int} {s:RS} (hl:least≤0):least≤(numS e least s).1:=by
 unfold numS
 cases hp:numP e least s.1 with
 | none=>exact hl
 | some r=>obtain ⟨n,r⟩:=r;exact (numP_some hp).2.2
theorem numS_inR {e:UInt8} {least:Int} {s:RS}:inR (numS e least s).1:=by
 unfold numS
 cases hp:numP e least s.1 with
 | none=>exact (⟨by decide,by decide⟩:inR 0)
 | some r=>obtain ⟨n,r⟩:=r;exact (numP_some hp).2.1
end Go.Proofs.YtplebjehcgcdeaaGreatDoor.Dw
namespace Go.Proofs.YtplebjehcgcdeaaGreatDoor.Dw
open Go Go.Lib
def encI (n:Int):List UInt8:=itoL n++[59]
def encN (n:Int):List UInt8:=if n<0 then [] else encI n
def encT (t:List UInt8):List UInt8:=itoL t.length++58 :: t++[44]
def encL (l:List Int):List UInt8:=itoL l.length++91 :: l.flatMap encI++[93]
structure Vol where
 x0:Int
 y0:Int
 x1:Int
 y1:Int
 z0:Int
 z1:Int
 use:Int
 units:Int
 extra:Bool
 deriving DecidableEq
abbrev Ent:=List UInt8 × Int
structure Phs where
 vols:List Vol
 gives:List Ent
 deriving DecidableEq
structure Drw where
 lot:Int
 phs:List Phs
 deriving DecidableEq
def Vol.nums (v:Vol):List Int:=[v.x0,v.y0,v.x1,v.y1,v.z0,v.z1,v.use,v.units,if v.extra then 1 else 0]
def volOf (l:List Int):Vol:=⟨l.getD 0 0,l.getD 1 0,l.getD 2 0,l.getD 3 0,l.getD 4 0,l.getD 5 0,l.getD 6 0,l.getD 7 0,decide (l.getD 8 0=1)⟩
def okNums (l:List Int):Bool:=decide (l.length=9) && (decide (l.getD 8 0=0) || decide (l.getD 8 0=1))
def Vol.inR (v:Vol):Prop:=∀ n∈v.nums,Dw.inR n
def encV (v:Vol):List UInt8:=encL v.nums
def encE (e:Ent):List UInt8:=encT e.1++encN e.2
def encP (p:Phs):List UInt8:=encN p.vols.length++p.vols.flatMap encV++(encN p.gives.length++p.gives.flatMap encE)
def enc (d:Drw):List UInt8:=encN d.lot++encN d.phs.length++d.phs.flatMap encP
def volsL:Nat→RS→List Vol→List Vol × Bool × RS
 | 0,s,out=>(out,true,s)
 | n+1,s,out=>if okNums (numsS s).1 then volsL n (numsS s).2 (out++[volOf (numsS s).1]) else (out,false,(numsS s).2)
def givesL:Nat→RS→List Ent→List Ent × RS
 | 0,s,out=>(out,s)
 | n+1,s,out=>givesL n (numS 59 0 (textS s).2).2 (out++[((textS s).1,(numS 59 0 (textS s).2).1)])
def phaseS (s:RS):Phs × Bool × RS :=
 let a:=numS 59 0 s
 if 40<a.1 then (⟨[],[]⟩,false,a.2) else
 let v:=volsL a.1.toNat a.2 []
 if v.2.1 then
  let b:=numS 59 0 v.2.2
  if 30<b.1 then (⟨v.1,[]⟩,false,b.2) else
  let g:=givesL b.1.toNat b.2 []
  (⟨v.1,g.1⟩,true,g.2)
 else (⟨v.1,[]⟩,false,v.2.2)
def phsL:Nat→RS→List Phs→Option (List Phs × RS)
 | 0,s,out=>some (out,s)
 | n+1,s,out=>if (phaseS s).2.1 then phsL n (phaseS s).2.2 (out++[(phaseS s).1]) else none
def readF (form:Drw→Bool) (l:List UInt8):Option Drw :=
 let a:=numS 59 0 (l,false)
 let b:=numS 59 0 a.2
 if 8<b.1 then none else
 match phsL b.1.toNat b.2 [] with
 | none=>none
 | some r=>if (!r.2.2 && decide (r.2.1=[])) && form ⟨a.1,r.1⟩ then some ⟨a.1,r.1⟩ else none
structure Fit (d:Drw):Prop where
 lot:0≤d.lot∧inR d.lot
 phs:d.phs.length≤8
 vols:∀ p∈d.phs,p.vols.length≤40∧∀ v∈p.vols,v.inR
 gives:∀ p∈d.phs,p.gives.length≤30∧∀ e∈p.gives,e.1.length≤1000000∧0≤e.2∧inR e.2
end Go.Proofs.YtplebjehcgcdeaaGreatDoor.Dw
namespace Go.Proofs.YtplebjehcgcdeaaGreatDoor.Dw
open Go Go.Lib
def numsR (s:RS):List Int × RS :=
 let b:=itemsL (numS 91 0 s).1.toNat (numS 91 0 s).2 []
 if b.2.2 then ([],b.2) else if (closeS 93 b.2).2 then ([],closeS 93 b.2) else (b.1,closeS 93 b.2)
def vol0:Vol:=⟨0,0,0,0,0,0,0,0,false⟩
def volR (s:RS):Vol × RS :=
 let a:=numsR s
 if a.1.length≠9 then (vol0,(a.2.1,true)) else (volOf a.1,(a.2.1,a.2.2 || !okNums a.1))
end Go.Proofs.YtplebjehcgcdeaaGreatDoor.Dw
namespace Go.Proofs.YtplebjehcgcdeaaGreatDoor.Bm
open Go Go.RowKit
variable {P:Program} {h:Heap}
theorem str_inj {a b:List UInt8}:((⟨⟨a⟩⟩:ByteArray)=⟨⟨b⟩⟩)↔a=b:=by
 constructor
 ·intro h;injection h with h;injection h
 ·rintro rfl;rfl
theorem str_size {l:List UInt8}:ByteArray.size ⟨⟨l⟩⟩=l.length:=rfl
theorem str_app {a b:List UInt8}:(⟨⟨a⟩⟩:ByteArray) ++ ⟨⟨b⟩⟩=⟨⟨a++b⟩⟩:=by
 apply ByteArray.ext
 rw [ByteArray.data_append]
 simp
theorem str_cut {l:List UInt8} {a b:Nat}:ByteArray.extract ⟨⟨l⟩⟩ a b=⟨⟨(l.take b).drop a⟩⟩:=by
 apply ByteArray.ext
 rw [ByteArray.data_extract]
 simp [List.drop_take]
theorem str_get {l:List UInt8} {i:Nat}:(⟨⟨l⟩⟩:ByteArray)[i]?=l[i]?:=by
 by_cases hi:i<l.length
 ·rw [getElem?_pos (⟨⟨l⟩⟩:ByteArray) i hi,List.getElem?_eq_getElem hi];rfl
 ·rw [getElem?_neg (⟨⟨l⟩⟩:ByteArray) i hi,List.getElem?_eq_none (by omega)]
theorem sv_idx {l:List UInt8} {i:Nat} {k:IntKind} (hi:i<l.length):indexT .str (.string ⟨⟨l⟩⟩) (.int k (i:Int))=some (.int .u8 l[i].toNat):=by
 unfold indexT
 simp only
 rw [if_pos (Int.natCast_nonneg _),Int.toNat_natCast,str_get,List.getElem?_eq_getElem hi];rfl
theorem sv_head {c:UInt8} {l:List UInt8} {k:IntKind}:indexT .str (.string ⟨⟨c :: l⟩⟩) (.int k 0)=some (.int .u8 c.toNat):=sv_idx (i:=0) (by simp)
theorem sv_take {l:List UInt8} {u:Nat} {k:IntKind} (hu:u≤l.length):sliceT .str h (.string ⟨⟨l⟩⟩) none (some (.int k (u:Int))) none=some (.string ⟨⟨l.take u⟩⟩):=by
 unfold sliceT bound
 simp only [str_size]
 rw [if_neg (by simp),if_pos ⟨by omega,by omega⟩]
 simp only [Option.bind_some,Option.map_some,Int.toNat_natCast,str_cut,List.drop_zero]
theorem sv_drop {l:List UInt8} {u:Nat} {k:IntKind} (hu:u≤l.length):sliceT .str h (.string ⟨⟨l⟩⟩) (some (.int k (u:Int))) none none=some (.string ⟨⟨l.drop u⟩⟩):=by
 unfold sliceT bound
 simp only [str_size,Option.bind_some]
 rw [if_neg (by simp),if_pos ⟨by omega,by omega⟩]
 simp only [Option.map_some,Int.toNat_natCast,str_cut,List.take_length]
theorem sv_add {t:TypeId} {a b:List UInt8} (hl:a.length+b.length≤1000000000):aBin P .add t (.string ⟨⟨a⟩⟩) (.string ⟨⟨b⟩⟩)=some (.string ⟨⟨a++b⟩⟩):=by
 have h1:¬ ((a.length+b.length:Nat):Int) > 9223372036854775807:=by omega
 simp only [aBin,aStringOp,str_size,str_app]
 show (if ((a.length+b.length:Nat):Int) > 9223372036854775807 then none else _)=_
 rw [if_neg h1]
def rdC (t:TypeId) (s:Dw.RS):AObj:=.cells t [.string ⟨⟨s.1⟩⟩,.bool s.2] 0
abbrev rdP (b:Nat):Value:=.pointer (some ⟨b,0,none⟩)
section
variable {t:TypeId} {b lo:Nat} {s:Dw.RS} (hob:h[b]?=some (rdC t s))
include hob
theorem rd_rest {sz:Option Nat}:loadT ⟨some false,sz⟩ h (.pointer (some ⟨b,0,none⟩))=some (.string ⟨⟨s.1⟩⟩):=obj_load hob rfl
theorem rd_bad {sz:Option Nat}:loadT ⟨some false,sz⟩ h (.pointer (some ⟨b,1,none⟩))=some (.bool s.2):=obj_load hob rfl
theorem rd_set (hlo:lo≤b) (l:List UInt8):storeT (some 1) h lo (.string ⟨⟨l⟩⟩) (.pointer (some ⟨b,0,none⟩))=some (h.set b (rdC t (l,s.2))):=obj_store hob (by simp) hlo rfl
theorem rd_mark (hlo:lo≤b) (x:Bool):storeT (some 1) h lo (.bool x) (.pointer (some ⟨b,1,none⟩))=some (h.set b (rdC t (s.1,x))):=obj_store hob (by simp) hlo rfl
end
theorem rd_get {t:TypeId} {b:Nat} (s:Dw.RS) (hb:b<h.length):(h.set b (rdC t s))[b]?=some (rdC t s):=by rw [List.getElem?_set_self hb]
theorem ob_lt {b:Nat} {o:AObj} (hob:h[b]?=some o):b<h.length:=by
 rcases Nat.lt_or_ge b h.length with q | q
 ·exact q
 ·rw [List.getElem?_eq_none q] at hob;cases hob
end Go.Proofs.YtplebjehcgcdeaaGreatDoor.Bm
namespace Go.Proofs.YtplebjehcgcdeaaGreatDoor.Bm
open Go Go.RowKit
open Dw (RS numP numS closeS textS itemsL numsS minI)
theorem ret3t {f:FuncId} (hm:E.mode f=3) {C:Callee} {lo:Nat} {h:Heap} {args:List Value}:retCall E C lo false f args h=(C f args h lo).map fun r=>(r.1,trim h.length [r.1] r.2):=by
 unfold retCall;rw [hm];rfl
abbrev tW:TypeId:=183
theorem fail_spec {h:Heap} {b lo:Nat} {s:RS} (hob:h[b]?=some (rdC tW s)) (hlo:lo≤b):retCall E (L E) lo false 184 [rdP b] h=some (.tuple #[],h.set b (rdC tW ([],true))):=by
 have s1:=rd_set hob hlo []
 have s2:=rd_mark (rd_get (h:=h) (t:=tW) ([],s.2) (ob_lt hob)) hlo true
 rw [List.set_set] at s2
 have key:L E 184 [rdP b] h lo=some (.tuple #[],h.set b (rdC tW ([],true))):=by
  rw [L_fn F184 rfl]
  simp -implicitDefEqProofs [r184,p184,rop_nilCheck,s1,s2]
 rw [ret3t m184,key,Option.map_some,trim_le (by rw [List.length_set];exact Nat.le_refl _)]
theorem mIB:E.mode 183=0:=by kernel_rfl
theorem mIt:E.mode 119=0:=by kernel_rfl
theorem mAt:E.mode 185=2:=by kernel_rfl
theorem ixb_pure (l:List UInt8) (e:UInt8):pureCall E.P (L E) 183 [.string ⟨⟨l⟩⟩,.int .u8 e.toNat]=some (.int .i64 (Lib.indexByte l e)):=by
 unfold pureCall
 rw [L_orc (g:=scaG ixbF) rfl]
 have e1:((e.toNat:Int).toNat).toUInt8=e:=by rw [Int.toNat_natCast];exact UInt8.ofNat_toNat
 show some (Value.int .i64 (Lib.indexByte l ((e.toNat:Int).toNat).toUInt8))=_
 rw [e1]
theorem ito_pure {n:Int} (hn:Dw.inR n):pureCall E.P (L E) 119 [.int .i64 n]=some (.string ⟨⟨Bm.itoL n⟩⟩):=by
 unfold pureCall
 rw [L_orc (g:=scaG itoaF) rfl]
 have e1:itoaF [.int .i64 n]=some (.string ⟨⟨Bm.itoL n⟩⟩):=if_pos hn
 show ((itoaF [.int .i64 n]).map (·,_)).bind _=_
 rw [e1];rfl
theorem ato_call {l:List UInt8} (hl:l.length≤1000000) {h:Heap} {lo:Nat}:retCall E (L E) lo false 185 [.string ⟨⟨l⟩⟩] h=some (match Lib.atoiAll l with
  | .ok v=>.tuple ⟨[.int .i64 v,.nilIface]⟩
  | .«syntax»=>.tuple ⟨[.int .i64 0,.iface 276 undef]⟩
  | .range=>.tuple ⟨[.int .i64 (Lib.atoiSat l),.iface 276 undef]⟩,h):=by
 rw [ret2 mAt,L_orc (g:=scaG (atoiF 276)) rfl]
 have e1:atoiF 276 [.string ⟨⟨l⟩⟩]=some (match Lib.atoiAll l with
  | .ok v=>.tuple ⟨[.int .i64 v,.nilIface]⟩
  | .«syntax»=>.tuple ⟨[.int .i64 0,.iface 276 undef]⟩
  | .range=>.tuple ⟨[.int .i64 (Lib.atoiSat l),.iface 276 undef]⟩):=by
  unfold atoiF
  simp only [str_size]
  rw [if_pos (by omega)]
  cases Lib.atoiAll l <;> rfl
 show (atoiF _ _).map (·,h)=_
 rw [e1];rfl
theorem flat_nilI:flat .nilIface=true:=rfl
theorem index_lt {l:List UInt8} {e:UInt8} (h:0≤Lib.indexByte l e):(Lib.indexByte l e).toNat<l.length:=by
 obtain ⟨i,h1,h2⟩:=Dw.index_some l e h
 have:=congrArg List.length h2
 simp only [List.length_append,List.length_cons,List.length_take,List.length_drop] at this
 omega
theorem take_min (l:List UInt8) (n:Nat):l.take (min l.length n)=l.take n:=by
 rcases Nat.le_total l.length n with q | q
 ·rw [Nat.min_eq_left q,List.take_length,List.take_of_length_le q]
 ·rw [Nat.min_eq_right q]
theorem number_key {h:Heap} {b lo:Nat} {s:RS} {e:UInt8} {least:Int} (hob:h[b]?=some (rdC tW s)) (hlo:lo≤b) (hl:s.1.length≤1000000) :
  L E 144 [rdP b,.int .u8 e.toNat,.int .i64 least] h lo=some (.int .i64 (numS e least s).1,h.set b (rdC tW (numS e least s).2)):=by
 obtain ⟨l,bad⟩:=s
 simp only at hl
 have l1:=rd_rest hob (sz:=some 1)
 have c1:∀ h,sliceT .str h (.string ⟨⟨l⟩⟩) none (some (.int .i64 (if 21<(l.length:Int) then 21 else (l.length:Int)))) none=some (.string ⟨⟨l.take 21⟩⟩):=fun h=>by
  rw [show (if 21<(l.length:Int) then 21 else (l.length:Int))=((min l.length 21:Nat):Int) by split <;> omega,sv_take (Nat.min_le_left _ _),take_min]
 have ix:=ixb_pure (l.take 21) e
 have fl:=fail_spec hob hlo
 unfold numS numP
 simp only
 have hge:=Lib.indexByte_ge (l.take 21) e
 rw [L_fn F144 rfl]
 by_cases h0:Lib.indexByte (l.take 21) e<0
 ·rw [if_pos h0]
  simp -implicitDefEqProofs [r144,p144,rop_nilCheck,l1,c1,str_size,aMinMax,ret0 mIB,ix,h0,fl]
 ·rw [if_neg h0]
  have hlt:=index_lt (l:=l.take 21) (e:=e) (by omega)
  generalize Lib.indexByte (l.take 21) e=z at *
  obtain ⟨i,rfl⟩:∃ i:Nat,z=i:=⟨z.toNat,by omega⟩
  rw [Int.toNat_natCast] at *
  have hi2:i<l.length:=by simp at hlt;omega
  have c2:∀ h,sliceT .str h (.string ⟨⟨l.take 21⟩⟩) none (some (.int .i64 (i:Int))) none=some (.string ⟨⟨(l.take 21).take i⟩⟩):=fun h=>sv_take (by omega)
  have hx:((l.take 21).take i).length≤1000000:=by simp;omega
  generalize hX:(l.take 21).take i=x at *
  have at1:=fun h=>ato_call hx (h:=h) (lo:=lo)
  have c3:∀ h,sliceT .str h (.string ⟨⟨l⟩⟩) (some (.int .i64 ((i:Int)+1))) none none=some (.string ⟨⟨l.drop (i+1)⟩⟩):=fun h=>sv_drop (u:=i+1) (by omega)
  have w1:IntKind.i64.wrap ((i:Int)+1)=(i:Int)+1:=wrap64 (by omega) (by omega)
  have st:=rd_set hob hlo (l.drop (i+1))
  cases hm:Lib.atoiAll x with
  | ok n =>
   have hn:=Dw.atoi_inR hm
   have it:=ito_pure hn
   simp only [hm] at at1
   by_cases q1:Bm.itoL n=x
   ·by_cases q2:least≤n
    ·have q3:¬ n<least:=by omega
     simp only
     rw [if_pos ⟨q1,q2⟩]
     simp -implicitDefEqProofs [r144,p144,rop_nilCheck,l1,c1,c2,c3,str_size,aMinMax,ret0 mIB,ix,h0,at1,flat_nilI,ret0 mIt,it,q1,q3,w1,st]
    ·have q3:n<least:=by omega
     simp only
     rw [if_neg (fun q=>q2 q.2)]
     simp -implicitDefEqProofs [r144,p144,rop_nilCheck,l1,c1,c2,str_size,aMinMax,ret0 mIB,ix,h0,fl,at1,flat_nilI,ret0 mIt,it,q1,q3]
   ·simp only
    rw [if_neg (fun q=>q1 q.1)]
    simp -implicitDefEqProofs [r144,p144,rop_nilCheck,l1,c1,c2,str_size,aMinMax,ret0 mIB,ix,h0,fl,at1,flat_nilI,ret0 mIt,it,q1]
  | «syntax» =>
   simp only [hm] at at1
   simp -implicitDefEqProofs [r144,p144,rop_nilCheck,l1,c1,c2,str_size,aMinMax,ret0 mIB,ix,h0,fl,at1,flat_nilI]
  | range =>
   simp only [hm] at at1
   simp -implicitDefEqProofs [r144,p144,rop_nilCheck,l1,c1,c2,str_size,aMinMax,ret0 mIB,ix,h0,fl,at1,flat_nilI]
theorem number_spec {h:Heap} {b lo:Nat} {s:RS} {e:UInt8} {least:Int} (hob:h[b]?=some (rdC tW s)) (hlo:lo≤b) (hl:s.1.length≤1000000) :
  retCall E (L E) lo false 144 [rdP b,.int .u8 e.toNat,.int .i64 least] h=some (.int .i64 (numS e least s).1,h.set b (rdC tW (numS e least s).2)):=by
 rw [ret3t m144,number_key hob hlo hl,Option.map_some,trim_le (by rw [List.length_set];exact Nat.le_refl _)]
end Go.Proofs.YtplebjehcgcdeaaGreatDoor.Bm
namespace Go.Proofs.YtplebjehcgcdeaaGreatDoor.Bm
open Go Go.RowKit
open Dw (RS numP numS closeS textS itemsL numsS minI)
theorem pre_pure (l:List UInt8) (c:UInt8):pureCall E.P (L E) 270 [.string ⟨⟨l⟩⟩,.string ⟨⟨[c]⟩⟩]=some (.bool (match l with | []=>false | x :: _=>decide (x=c))):=by
 rw [pureCall_fn F270 rfl]
 cases l with
 | nil=>simp -implicitDefEqProofs [r270,padS,str_size]
 | cons x r =>
  have c1:∀ h,sliceT .str h (.string ⟨⟨x :: r⟩⟩) none (some (.int .i64 1)) none=some (.string ⟨⟨[x]⟩⟩):=fun h=>by
   have:=sv_take (h:=h) (l:=x :: r) (u:=1) (k:=.i64) (by simp)
   simpa using this
  have hlen:(1:Int)≤(r.length:Int)+1:=by omega
  simp -implicitDefEqProofs [r270,padS,str_size,c1,hlen]
theorem cut_pure (l:List UInt8) (c:UInt8):pureCall E.P (L E) 220 [.string ⟨⟨l⟩⟩,.string ⟨⟨[c]⟩⟩]=some (match l with | []=>.tuple ⟨[.string ⟨⟨[]⟩⟩,.bool false]⟩ | x :: r=>if x=c then .tuple ⟨[.string ⟨⟨r⟩⟩,.bool true]⟩ else .tuple ⟨[.string ⟨⟨x :: r⟩⟩,.bool false]⟩):=by
 have hp:=pre_pure l c
 have key:pureCall E.P (L E) 256 [.string ⟨⟨l⟩⟩,.string ⟨⟨[c]⟩⟩]=some (match l with | []=>.tuple ⟨[.string ⟨⟨[]⟩⟩,.bool false]⟩ | x :: r=>if x=c then .tuple ⟨[.string ⟨⟨r⟩⟩,.bool true]⟩ else .tuple ⟨[.string ⟨⟨x :: r⟩⟩,.bool false]⟩):=by
  rw [pureCall_fn F256 rfl]
  cases l with
  | nil=>simp -implicitDefEqProofs [r256,padS,ret0 m270,hp]
  | cons x r =>
   have c1:∀ h,sliceT .str h (.string ⟨⟨x :: r⟩⟩) (some (.int .i64 1)) none none=some (.string ⟨⟨r⟩⟩):=fun h=>by
    have:=sv_drop (h:=h) (l:=x :: r) (u:=1) (k:=.i64) (by simp)
    simpa using this
   by_cases hx:x=c
   ·subst hx
    simp -implicitDefEqProofs [r256,padS,str_size,c1,ret0 m270,hp]
   ·simp -implicitDefEqProofs [r256,padS,ret0 m270,hp,hx]
 rw [pureCall_fn F220 rfl]
 cases l with
 | nil=>simp -implicitDefEqProofs [r220,padS,ret1s m256,key]
 | cons x r =>
  by_cases hx:x=c
  ·subst hx
   simp -implicitDefEqProofs [r220,padS,ret1s m256,key]
  ·simp -implicitDefEqProofs [r220,padS,ret1s m256,key,hx]
theorem close_spec {h:Heap} {b lo:Nat} {s:RS} {c:UInt8} (hob:h[b]?=some (rdC tW s)) (hlo:lo≤b) :
  retCall E (L E) lo false 188 [rdP b,.string ⟨⟨[c]⟩⟩] h=some (.tuple #[],h.set b (rdC tW (closeS c s))):=by
 obtain ⟨l,bad⟩:=s
 have l1:=rd_rest hob (sz:=some 1)
 have cp:=cut_pure l c
 have key:L E 188 [rdP b,.string ⟨⟨[c]⟩⟩] h lo=some (.tuple #[],h.set b (rdC tW (closeS c (l,bad)))):=by
  rw [L_fn F188 rfl]
  have bad2:∀ l',retCall E (L E) lo false 184 [rdP b] (h.set b (rdC tW (l',bad)))=some (.tuple #[],h.set b (rdC tW ([],true))):=fun l'=>by
   have:=fail_spec (lo:=lo) (rd_get (h:=h) (t:=tW) (l',bad) (ob_lt hob)) hlo
   rwa [List.set_set] at this
  unfold closeS
  cases l with
  | nil =>
   have s1:=rd_set hob hlo []
   simp -implicitDefEqProofs [r188,p188,rop_nilCheck,l1,ret1s m220,cp,s1,bad2]
  | cons x r =>
   by_cases hx:x=c
   ·subst hx
    have s1:=rd_set hob hlo r
    simp -implicitDefEqProofs [r188,p188,rop_nilCheck,l1,ret1s m220,cp,s1]
   ·have s1:=rd_set hob hlo (x :: r)
    simp -implicitDefEqProofs [r188,p188,rop_nilCheck,l1,ret1s m220,cp,s1,bad2,hx]
 rw [ret3t m188,key,Option.map_some,trim_le (by rw [List.length_set];exact Nat.le_refl _)]
theorem num_spec {h:Heap} {b lo:Nat} {s:RS} (hob:h[b]?=some (rdC tW s)) (hlo:lo≤b) (hl:s.1.length≤1000000) :
  retCall E (L E) lo false 85 [rdP b] h=some (.int .i64 (numS 59 0 s).1,h.set b (rdC tW (numS 59 0 s).2)):=by
 have n1:=number_spec (e:=59) (least:=0) hob hlo hl
 have e59:((59:UInt8).toNat:Int)=59:=rfl
 rw [e59] at n1
 have key:L E 85 [rdP b] h lo=some (.int .i64 (numS 59 0 s).1,h.set b (rdC tW (numS 59 0 s).2)):=by
  rw [L_fn F85 rfl]
  simp -implicitDefEqProofs [r85,padS,n1]
 rw [ret3t m85,key,Option.map_some,trim_le (by rw [List.length_set];exact Nat.le_refl _)]
theorem int_spec {h:Heap} {b lo:Nat} {s:RS} (hob:h[b]?=some (rdC tW s)) (hlo:lo≤b) (hl:s.1.length≤1000000) :
  retCall E (L E) lo false 187 [rdP b] h=some (.int .i64 (numS 59 minI s).1,h.set b (rdC tW (numS 59 minI s).2)):=by
 have n1:=number_spec (e:=59) (least:=minI) hob hlo hl
 have e59:((59:UInt8).toNat:Int)=59:=rfl
 rw [e59] at n1
 have key:L E 187 [rdP b] h lo=some (.int .i64 (numS 59 minI s).1,h.set b (rdC tW (numS 59 minI s).2)):=by
  rw [L_fn F187 rfl]
  unfold minI at n1 ⊢
  simp -implicitDefEqProofs [r187,padS,n1]
 rw [ret3t m187,key,Option.map_some,trim_le (by rw [List.length_set];exact Nat.le_refl _)]
end Go.Proofs.YtplebjehcgcdeaaGreatDoor.Bm
namespace Go.Proofs.YtplebjehcgcdeaaGreatDoor.Bm
open Go Go.RowKit
structure Enc (α:Type) where
 e:α→Value
 one:∀ a,one (e a)=true
 set:∀ a n,settled (n+1) (e a)=true
 bel:∀ a d n,below (d+1) n (e a)=true
 fits:∀ a sz,fitsTT ⟨some false,sz⟩ (e a)=true
namespace Enc
variable {α:Type} {O:Enc α} {h:Heap} {l m:List α} {P:Program}
def vals (O:Enc α) (l:List α):List Value:=l.map O.e
def o (O:Enc α) (k:Option Bool) (l:List α):Value:=match k with | none=>.slice none 0 0 | some b=>lst b (O.vals l)
def Ok (k:Option Bool) (l:List α):Prop:=k=none→l=[]
theorem ok_some {b:Bool}:Ok (some b) l:=fun h=>by cases h
def row (O:Enc α) (t:TypeId) (l:List α):AObj:=.cells t (O.vals l) 1
def part (b n:Nat) (l:List α):Value:=.slice (some ⟨b,0,some l.length⟩) n l.length
def sl (b:Nat) (l:List α):Value:=.slice (some ⟨b,0,some l.length⟩) l.length l.length
def at_ (b:Nat) (l:List α) (i:Nat):Value:=.pointer (some ⟨b,i,some l.length⟩)
theorem vals_len:(O.vals l).length=l.length:=List.length_map _
theorem vals_app:O.vals (l++m)=O.vals l++O.vals m:=List.map_append
theorem e_cells (a:α):cellsL (O.e a)=[O.e a]:=by
 have:=O.one a
 unfold cellsL
 split
 ·rename_i h;rw [h] at this;cases this
 ·rfl
theorem vals_all (l:List α):(O.vals l).all (fun v=>(cellsL v).length == 1)=true:=by
 rw [List.all_eq_true]
 intro v hv
 obtain ⟨a,_,rfl⟩:=List.mem_map.1 hv
 rw [e_cells];rfl
theorem vals_set (l:List α):(O.vals l).all (settled 8)=true:=by
 rw [List.all_eq_true]
 intro v hv
 obtain ⟨a,_,rfl⟩:=List.mem_map.1 hv
 exact O.set a 7
theorem vals_flat:∀ l:List α,(O.vals l).flatMap cellsL=O.vals l
 | []=>rfl
 | a :: l=>by
  show cellsL (O.e a)++(O.vals l).flatMap cellsL=O.e a :: O.vals l
  rw [e_cells,vals_flat l];rfl
theorem vals_get {i:Nat} (hi:i<l.length):(O.vals l)[i]?=some (O.e l[i]):=by
 unfold vals;rw [List.getElem?_map,List.getElem?_eq_getElem hi];rfl
theorem vals_take (n:Nat):(O.vals l).take n=O.vals (l.take n):=by unfold vals;rw [List.map_take]
theorem vals_drop (n:Nat):(O.vals l).drop n=O.vals (l.drop n):=by unfold vals;rw [List.map_drop]
theorem o_len {k:Option Bool} (hk:Ok k l):lenT .sl h (O.o k l)=some (.int .i64 l.length):=by
 cases k with
 | none=>rw [hk rfl];rfl
 | some b=>show lenT .sl h (lst b (O.vals l))=_;rw [len_lst,vals_len]
theorem o_one {k:Option Bool}:Bm.one (O.o k l)=true:=by cases k <;> rfl
theorem o_set {k:Option Bool} {n:Nat}:settled (n+1) (O.o k l)=true:=by cases k <;> rfl
theorem o_bel {k:Option Bool} {d n:Nat}:below (d+1) n (O.o k l)=true:=by cases k <;> rfl
theorem o_fits {k:Option Bool} {sz:Option Nat}:fitsTT ⟨some false,sz⟩ (O.o k l)=true:=by cases k <;> rfl
theorem o_reify {k:Option Bool} {n:Nat}:reify P (n+1) h (O.o k l)=some (O.o k l):=by cases k <;> rfl
theorem cells_tree {x:Bool}:sliceCells h 1 (lst x (O.vals l))=some (O.vals l,l.length):=by
 rw [cells_lst (vals_all l),vals_flat,vals_len]
theorem index_tree {x:Bool} {t:TypeId} {i:Nat} {k:IntKind} (hi:i<l.length):indexAddrT (.sl t ⟨some false,some 1⟩) (lst x (O.vals l)) (.int k (i:Int))=some (cptr (O.e l[i])):=by
 rw [index_lst,if_pos (by omega),Int.toNat_natCast,vals_get hi,Option.bind_some,O.fits,e_cells];rfl
theorem row_bel {n:Nat} {t:TypeId}:belowO n (O.row t l)=true:=by
 show (O.vals l).all (below 8 n)=true
 rw [List.all_eq_true]
 intro v hv
 obtain ⟨a,_,rfl⟩:=List.mem_map.1 hv
 exact O.bel a 7 n
theorem sl_bel {n d b:Nat} (hb:b<n):below (d+1) n (sl b l)=true:=decide_eq_true hb
theorem sl_len {b:Nat}:lenT .sl h (sl b l)=some (.int .i64 l.length):=rfl
theorem fits_row {b n:Nat} {t:TypeId} (hob:h[b]?=some (O.row t l)) (hn:n=l.length) {off:Nat}:fitsRow h ⟨b,off,some n⟩ 1=true:=by
 subst hn
 unfold fitsRow
 show (match h[b]? with | some (.cells _ c g)=>_ | _=>false)=true
 rw [hob]
 show (stampOk _ 1 (O.vals l).length && _)=true
 unfold stampOk;rw [vals_len];simp
theorem frz_part {b n lo:Nat} {t:TypeId} (hob:h[b]?=some (O.row t l)) (hn:n≤l.length) (hs:szOf P t=some 1) (ha:aggT P t=some false) (hlo:lo≤b) :
  freezeV P depth lo h (part b n l)=some (lst false (O.vals (l.take n)),if n=0 then h else h.set b .dead):=by
 have e:((O.vals l).drop 0).take (n * 1)=O.vals (l.take n):=by rw [List.drop_zero,Nat.mul_one,vals_take]
 exact frz_row1 (a:=⟨b,0,some l.length⟩) (t:=t) (c:=O.vals l) (g:=1) hob hs hlo (by unfold stampOk;rw [vals_len];simp) Nat.one_pos (by rw [vals_len];simp;omega) (by rw [e];exact vals_set _)
  (by rw [e];exact elems_one ha hs) (by rw [vals_len,List.length_take];omega)
theorem frz_sl {b lo:Nat} {t:TypeId} (hob:h[b]?=some (O.row t l)) (hs:szOf P t=some 1) (ha:aggT P t=some false) (hlo:lo≤b) :
  freezeV P depth lo h (sl b l)=some (lst false (O.vals l),if l.length=0 then h else h.set b .dead):=by
 have:=frz_part (P:=P) (lo:=lo) hob (Nat.le_refl l.length) hs ha hlo
 rw [List.take_length] at this
 exact this
theorem app {el:El} {lo b:Nat} {t:TypeId} {u:Value} (hel:el.size=1) (hob:h[b]?=some (O.row t l)) (hu:sliceCells h 1 u=some (O.vals m,m.length)) (hlo:lo≤b) (hb:(l.length+m.length) * el.bytes≤2 ^ 47) (hte:t=el.e:=by rfl) :
  appendT (some el) h lo false (sl b l) u=some (sl b (l++m),h.set b (O.row t (l++m))):=by
 have hob':h[b]?=some (.cells t (O.vals l) 1):=hob
 unfold sl
 rw [append_slice,hel,hu]
 show appS el h lo false _ _ _ h[b]? _=_
 by_cases hm:m.length=0
 ·have:m=[]:=List.eq_nil_of_length_eq_zero hm
  subst this
  have hf:fitsRow h ⟨b,0,some l.length⟩ el.size=true:=by rw [hel];exact fits_row hob rfl
  unfold appS
  simp only [List.append_nil,List.length_nil,Nat.add_zero,Nat.le_refl,if_true,hf,Option.bind_some]
  congr 2
  refine (List.ext_getElem? fun i=>?_)
  rw [List.getElem?_set]
  split
  ·rename_i e;subst e
   split
   ·exact hob
   ·rename_i hlt;rw [List.getElem?_eq_none (by omega)]
  ·rfl
 ·rw [hob']
  refine (appS_grown (m:=m.length) hm vals_len.symm rfl hel (by rw [vals_len];omega) hlo hb hte).trans ?_
  unfold row
  rw [vals_app,List.length_append,vals_len,vals_len,List.length_append]
theorem app_room {el:El} {lo b i:Nat} {t:TypeId} {u:Value} (hel:el.size=1) (hob:h[b]?=some (O.row t l)) (hu:sliceCells h 1 u=some (O.vals m,m.length)) (hm:m≠[]) (hlo:lo≤b) (hi:i+m.length≤l.length) :
  appendT (some el) h lo false (part b i l) u=some (part b (i+m.length) (l.take i++m++l.drop (i+m.length)),h.set b (O.row t (l.take i++m++l.drop (i+m.length)))):=by
 have hob':h[b]?=some (.cells t (O.vals l) 1):=hob
 have hm0:m.length≠0:=fun e=>hm (List.eq_nil_of_length_eq_zero e)
 have hf:fitsRow h ⟨b,0,some l.length⟩ el.size=true:=by rw [hel];exact fits_row hob rfl
 have hlen:(l.take i++m++l.drop (i+m.length)).length=l.length:=by simp;omega
 unfold part
 rw [append_slice,hel,hu]
 show appS el h lo false _ _ _ h[b]? _=_
 unfold appS
 simp only [Option.bind_some]
 rw [if_pos hi,if_neg hm0,hf]
 simp only [Bool.not_true,Bool.or_false,Bool.false_eq_true,if_false]
 unfold wrN
 show Option.map _ (match h[b]? with | some (.cells t c g)=>_ | _=>none)=_
 rw [hob']
 show Option.map _ (if _ then _ else none)=_
 rw [if_pos ⟨hlo,by unfold shift stampOk;rw [vals_len];simp,by rw [vals_len];omega,by unfold shift;rw [vals_len,vals_len,hel];simp;omega⟩]
 show some (_,h.set b (.cells t (splice (O.vals l) (0+i * el.size) (O.vals m)) 1))=_
 have e:splice (O.vals l) (0+i * el.size) (O.vals m)=O.vals (l.take i++m++l.drop (i+m.length)):=by
  unfold splice
  rw [hel,Nat.zero_add,Nat.mul_one,vals_len,vals_take,vals_drop,vals_app,vals_app]
 rw [e,hlen];rfl
theorem lit {el:El} (a:α) (hel:el.size=1) (hz:el.z.cells.size=1) (hk:el.k=⟨some false,some 1⟩):buildSliceT (some el) false h 1 #[(0,O.e a)]=some (lst true (O.vals [a]),h):=by
 rw [build_one' (O.one a) hel hz,if_neg (by simp),if_pos (O.set a 7),hk];rfl
end Enc
def intE:Enc Int:=⟨.int .i64,fun _=>rfl,fun _ _=>rfl,fun _ _ _=>rfl,fun _ _=>rfl⟩
end Go.Proofs.YtplebjehcgcdeaaGreatDoor.Bm
namespace Go.Proofs.YtplebjehcgcdeaaGreatDoor.Bm
open Go Go.RowKit
open Dw (RS numP numS closeS textS itemsL numsS minI)
theorem numS_len {e:UInt8} {least:Int} (s:RS):(numS e least s).2.1.length≤s.1.length:=by
 unfold numS
 cases h:numP e least s.1 with
 | none=>exact Nat.zero_le _
 | some r =>
  obtain ⟨n,r⟩:=r
  have:=(Dw.numP_some h).1
  rw [this];simp;omega
theorem closeS_len {c:UInt8} (s:RS):(closeS c s).1.length≤s.1.length:=by
 unfold closeS
 cases s.1 with
 | nil=>exact Nat.zero_le _
 | cons x r =>
  simp only
  split <;> simp
theorem textS_len (s:RS):(textS s).2.1.length≤s.1.length:=by
 unfold textS
 simp only
 split
 ·exact Nat.zero_le _
 ·have h1:=closeS_len (c:=44) ((numS 58 0 s).2.1.drop (numS 58 0 s).1.toNat,(numS 58 0 s).2.2)
  have h2:=numS_len (e:=58) (least:=0) s
  simp only [List.length_drop] at h1
  split <;> simp only <;> omega
theorem itemsL_len:∀ (n:Nat) (s:RS) (out:List Int),(itemsL n s out).2.1.length≤s.1.length
 | 0,s,out=>Nat.le_refl _
 | n+1,s,out=>by
  unfold itemsL
  split
  ·exact Nat.le_refl _
  ·have h1:=itemsL_len n (numS 59 minI s).2 (out++[(numS 59 minI s).1])
   have h2:=numS_len (e:=59) (least:=minI) s
   omega
theorem numsS_len (s:RS):(numsS s).2.1.length≤s.1.length:=by
 unfold numsS
 simp only
 have h1:=closeS_len (c:=93) (itemsL (numS 91 0 s).1.toNat (numS 91 0 s).2 []).2
 have h2:=itemsL_len (numS 91 0 s).1.toNat (numS 91 0 s).2 []
 have h3:=numS_len (e:=91) (least:=0) s
 split <;> simp only <;> omega
theorem text_spec {h:Heap} {b lo:Nat} {s:RS} (hob:h[b]?=some (rdC tW s)) (hlo:lo≤b) (hl:s.1.length≤1000000) :
  retCall E (L E) lo false 146 [rdP b] h=some (.string ⟨⟨(textS s).1⟩⟩,h.set b (rdC tW (textS s).2)):=by
 have n1:=number_spec (e:=58) (least:=0) hob hlo hl
 have e58:((58:UInt8).toNat:Int)=58:=rfl
 rw [e58] at n1
 have hge:=Dw.numS_ge (e:=58) (least:=0) (s:=s) (Int.le_refl _)
 have hle:=numS_len (e:=58) (least:=0) s
 have key:L E 146 [rdP b] h lo=some (.string ⟨⟨(textS s).1⟩⟩,h.set b (rdC tW (textS s).2)):=by
  rw [L_fn F146 rfl]
  unfold textS
  generalize numS 58 0 s=a at *
  obtain ⟨z,s1⟩:=a
  obtain ⟨n,rfl⟩:∃ n:Nat,z=n:=⟨z.toNat,(Int.toNat_of_nonneg hge).symm⟩
  simp only [Int.toNat_natCast] at *
  have hb:=ob_lt hob
  have h1:=rd_get (h:=h) (t:=tW) s1 hb
  have l1:=rd_rest h1 (sz:=some 1)
  by_cases hc:(s1.1.length:Int)<n
  ·rw [if_pos hc]
   have fl:=fail_spec (lo:=lo) h1 hlo
   rw [List.set_set] at fl
   simp -implicitDefEqProofs [r146,p146,n1,rop_nilCheck,l1,str_size,hc,fl,-Int.natCast_add]
  ·rw [if_neg hc]
   have c1:∀ h,sliceT .str h (.string ⟨⟨s1.1⟩⟩) none (some (.int .i64 (n:Int))) none=some (.string ⟨⟨s1.1.take n⟩⟩):=fun h=>sv_take (by omega)
   have c2:∀ h,sliceT .str h (.string ⟨⟨s1.1⟩⟩) (some (.int .i64 (n:Int))) none none=some (.string ⟨⟨s1.1.drop n⟩⟩):=fun h=>sv_drop (by omega)
   have st:=rd_set h1 hlo (s1.1.drop n)
   rw [List.set_set] at st
   have h2:=rd_get (h:=h) (t:=tW) (s1.1.drop n,s1.2) hb
   have cl:=close_spec (c:=44) (lo:=lo) h2 hlo
   rw [List.set_set] at cl
   generalize closeS 44 (s1.1.drop n,s1.2)=s2 at *
   have h3:=rd_get (h:=h) (t:=tW) s2 hb
   have l2:=rd_bad h3 (sz:=some 1)
   by_cases hq:s2.2=true
   ·simp -implicitDefEqProofs [r146,p146,n1,rop_nilCheck,l1,str_size,hc,c1,c2,st,cl,l2,hq,-Int.natCast_add]
   ·rw [Bool.not_eq_true] at hq
    simp -implicitDefEqProofs [r146,p146,n1,rop_nilCheck,l1,str_size,hc,c1,c2,st,cl,l2,hq,-Int.natCast_add]
 rw [ret3t m146,key,Option.map_some,trim_le (by rw [List.length_set];exact Nat.le_refl _)]
def kd (b:Bool):Option Bool:=if b then none else some false
theorem s3:szOf E.P 3=some 1:=by kernel_rfl
theorem aI:aggT E.P 3=some false:=by kernel_rfl
theorem lit_int (h:Heap) (z:Int):buildSliceT (some ⟨3,1,8,.int .i64 0,⟨some false,some 1⟩⟩) false h 1 #[(0,.int .i64 z)]=some (lst true [.int .i64 z],h) :=
 (build_lit' (n:=1) (l:=[(0,.int .i64 z)]) rfl rfl (by decide) (by decide) (by decide)).trans rfl
theorem app_int {h:Heap} {b lo:Nat} {c:List Int} (z:Int) (hob:h[b]?=some (intE.row 3 c)) (hlo:lo≤b) (hc:c.length≤1000000) :
  appendT (some ⟨3,1,8,.int .i64 0,⟨some false,some 1⟩⟩) h lo false (Enc.sl b c) (lst true [.int .i64 z])=some (Enc.sl b (c++[z]),h.set b (intE.row 3 (c++[z]))) :=
 Enc.app (O:=intE) (m:=[z]) rfl hob (Enc.cells_tree (O:=intE) (x:=true) (l:=[z])) hlo (by show (c.length+1) * 8≤2 ^ 47;omega)
def pot (s:RS):Nat:=s.1.length+(if s.2 then 0 else 1)
theorem numS_pot {e:UInt8} {least:Int} {s:RS} (hs:s.2=false):1+pot (numS e least s).2≤pot s:=by
 unfold pot numS
 rw [hs]
 cases h:numP e least s.1 with
 | none=>simp
 | some r =>
  obtain ⟨n,r⟩:=r
  have:=(Dw.numP_some h).1
  rw [this]
  simp;omega
theorem items_key {h:Heap} {b lo:Nat} {s:RS} (hob:h[b]?=some (rdC tW s)) (hlo:lo≤b) (hl:s.1.length≤100000) :
  ∃ o,L E 186 [rdP b,.func (.func 187) ⟨[rdP b]⟩ ⟨[]⟩] h lo=some (intE.o (kd (numsS s).2.2) (numsS s).1,(h.set b (rdC tW (numsS s).2))++[o]):=by
 have hb:=ob_lt hob
 have hob':(h++[intE.row 3 []])[b]?=some (rdC tW s):=by rw [List.getElem?_append_left hb];exact hob
 have n1:=number_spec (e:=91) (least:=0) hob' hlo (by omega)
 have e91:((91:UInt8).toNat:Int)=91:=rfl
 rw [e91] at n1
 have hge:=Dw.numS_ge (e:=91) (least:=0) (s:=s) (Int.le_refl _)
 have hle:=numS_len (e:=91) (least:=0) s
 have hin:=Dw.numS_inR (e:=91) (least:=0) (s:=s)
 have esl:Value.slice (some ⟨h.length,0,some 0⟩) 0 0=Enc.sl h.length ([]:List Int):=rfl
 have erow:AObj.cells 3 [] 1=intE.row 3 []:=rfl
 have eset:∀ (s:RS) (out:List Int),(h++[intE.row 3 out]).set b (rdC tW s)=h.set b (rdC tW s)++[intE.row 3 out]:=fun s out=>List.set_append_left _ _ hb
 rw [eset] at n1
 rw [L_fn F186 rfl]
 unfold numsS
 generalize numS 91 0 s=a at *
 obtain ⟨z,s1⟩:=a
 obtain ⟨n,rfl⟩:∃ n:Nat,z=n:=⟨z.toNat,(Int.toNat_of_nonneg hge).symm⟩
 simp only [Int.toNat_natCast] at *
 simp -implicitDefEqProofs [r186,p186,prep_new,newK_nil s3,esl,erow,n1,-Int.natCast_add,-Int.natCast_mul]
 have hp1:pot s1≤100001:=by unfold pot;split <;> omega
 rw [LL_rec (α:=RS × Nat × List Int) (s1,n,[]) (fun a=>[(5,Enc.sl h.length a.2.2),(6,.int .i64 (a.2.1:Int))]) (fun a=>h.set b (rdC tW a.1)++[intE.row 3 a.2.2])
  (fun a=>(.exit 0,[(5,Enc.sl h.length (itemsL a.2.1 a.1 a.2.2).1),(6,undef)],h.set b (rdC tW (itemsL a.2.1 a.1 a.2.2).2)++[intE.row 3 (itemsL a.2.1 a.1 a.2.2).1]))
  (fun a=>pot a.1+a.2.2.length≤100001∧(a.2.1:Int)≤9223372036854775807) (fun a=>a.2.1) ⟨hp1,hin.2⟩]
 ·generalize itemsL n s1 []=c
  have h3:(h.set b (rdC tW c.2)++[intE.row 3 c.1])[b]?=some (rdC tW c.2):=by rw [List.getElem?_append_left (by rw [List.length_set];exact hb)];exact rd_get c.2 hb
  have cl:=close_spec (c:=93) (lo:=lo) h3 hlo
  have eset2:∀ s':RS,(h.set b (rdC tW c.2)++[intE.row 3 c.1]).set b (rdC tW s')=h.set b (rdC tW s')++[intE.row 3 c.1]:=fun s'=>by
   rw [List.set_append_left _ _ (by rw [List.length_set];exact hb),List.set_set]
  rw [eset2] at cl
  generalize closeS 93 c.2=s4 at *
  have h4:(h.set b (rdC tW s4)++[intE.row 3 c.1])[b]?=some (rdC tW s4):=by rw [List.getElem?_append_left (by rw [List.length_set];exact hb)];exact rd_get s4 hb
  have l4:=rd_bad h4 (sz:=some 1)
  have ht:(h.set b (rdC tW s4)++[intE.row 3 c.1])[h.length]?=some (intE.row 3 c.1):=by rw [List.getElem?_append_right (by rw [List.length_set];exact Nat.le_refl _),List.length_set,Nat.sub_self];rfl
  by_cases hq:s4.2=true
  ·rw [hq] at l4
   rw [if_pos hq]
   refine ⟨intE.row 3 c.1,?_⟩
   simp -implicitDefEqProofs [k186_3,cl,rop_nilCheck,l4]
   rw [hq];rfl
  ·rw [if_neg hq]
   rw [Bool.not_eq_true] at hq
   rw [hq] at l4
   have fr:=Enc.frz_sl (P:=E.P) (lo:=lo) ht s3 aI (by omega)
   by_cases h0:c.1.length=0
   ·refine ⟨intE.row 3 c.1,?_⟩
    rw [if_pos h0] at fr
    simp -implicitDefEqProofs [k186_3,cl,rop_nilCheck,l4,prep_frz,fr,hq]
    rfl
   ·refine ⟨.dead,?_⟩
    rw [if_neg h0,List.set_append_right _ _ (by rw [List.length_set];exact Nat.le_refl _),List.length_set,Nat.sub_self,List.set_cons_zero] at fr
    simp -implicitDefEqProofs [k186_3,cl,rop_nilCheck,l4,prep_frz,fr,hq]
    rfl
 ·simp -implicitDefEqProofs [k186_3]
 ·rfl
 ·rintro nx ⟨s2,m,out⟩ ⟨hi1,hi2⟩ ih
  simp only at hi1 hi2
  have h2:(h.set b (rdC tW s2)++[intE.row 3 out])[b]?=some (rdC tW s2):=by rw [List.getElem?_append_left (by rw [List.length_set];exact hb)];exact rd_get s2 hb
  have l2:=rd_bad h2 (sz:=some 1)
  cases m with
  | zero =>
   simp -implicitDefEqProofs [r186_3,k186_3,itemsL,trim_le]
  | succ m =>
   have hm0:(0:Int)<((m+1:Nat):Int):=by omega
   by_cases hs:s2.2=true
   ·rw [hs] at l2
    simp -implicitDefEqProofs [r186_3,k186_3,itemsL,trim_le,rop_nilCheck,l2,hs,-Int.natCast_add]
   ·rw [Bool.not_eq_true] at hs
    rw [hs] at l2
    have hp:=numS_pot (e:=59) (least:=minI) hs
    have i1:=int_spec (lo:=lo) h2 hlo (by unfold pot at hi1;omega)
    have eset2:∀ s':RS,(h.set b (rdC tW s2)++[intE.row 3 out]).set b (rdC tW s')=h.set b (rdC tW s')++[intE.row 3 out]:=fun s'=>by
     rw [List.set_append_left _ _ (by rw [List.length_set];exact hb),List.set_set]
    rw [eset2] at i1
    have e3:itemsL (m+1) s2 out=itemsL m (numS 59 minI s2).2 (out++[(numS 59 minI s2).1]):=by
     conv=>lhs;unfold itemsL
     rw [if_neg (by rw [hs];simp)]
    rw [e3]
    have ih:=ih ((numS 59 minI s2).2,m,out++[(numS 59 minI s2).1]) (by simp) ⟨by simp only [List.length_append,List.length_singleton];omega,by simp only;omega⟩
    generalize numS 59 minI s2=a at *
    have ht:(h.set b (rdC tW a.2)++[intE.row 3 out])[h.length]?=some (intE.row 3 out):=by rw [List.getElem?_append_right (by rw [List.length_set];exact Nat.le_refl _),List.length_set,Nat.sub_self];rfl
    have ap:=app_int (lo:=lo) a.1 ht (by omega) (by unfold pot at hi1;omega)
    rw [List.set_append_right _ _ (by rw [List.length_set];exact Nat.le_refl _),List.length_set,Nat.sub_self,List.set_cons_zero] at ap
    have li:=fun h=>lit_int h a.1
    have w1:IntKind.i64.wrap (((m+1:Nat):Int)-1)=(m:Int):=(wrap64 (by omega) (by omega)).trans (by omega)
    simp -implicitDefEqProofs [k186_3,-Int.natCast_add] at ih
    simp -implicitDefEqProofs [r186_3,k186_3,trim_le,rop_nilCheck,l2,i1,li,ap,w1,-Int.natCast_add]
    exact ih
theorem rd_all {h:Heap} {b:Nat} {t:TypeId} (s:RS) (hb:h.all (belowO h.length)=true):(h.set b (rdC t s)).all (belowO h.length)=true:=by
 rw [List.all_eq_true] at hb ⊢
 intro z hz
 rcases List.mem_or_eq_of_mem_set hz with q | q
 ·exact hb z q
 ·rw [q];rfl
theorem items_spec {h:Heap} {b lo:Nat} {s:RS} (hob:h[b]?=some (rdC tW s)) (hlo:lo≤b) (hl:s.1.length≤100000) (hbl:h.all (belowO h.length)=true) :
  retCall E (L E) lo false 186 [rdP b,.func (.func 187) ⟨[rdP b]⟩ ⟨[]⟩] h=some (intE.o (kd (numsS s).2.2) (numsS s).1,h.set b (rdC tW (numsS s).2)):=by
 obtain ⟨o,key⟩:=items_key hob hlo hl
 have e:(h.set b (rdC tW (numsS s).2)).length=h.length:=List.length_set
 rw [ret3t m186,key,Option.map_some]
 rw [trim_cut (by rw [List.length_append,e];simp) (by simp only [List.all_cons,List.all_nil,Bool.and_true];exact Enc.o_bel) (by rw [List.take_left' e];exact rd_all _ hbl),List.take_left' e]
theorem nums_spec {h:Heap} {b lo:Nat} {s:RS} (hob:h[b]?=some (rdC tW s)) (hlo:lo≤b) (hl:s.1.length≤100000) (hbl:h.all (belowO h.length)=true) :
  retCall E (L E) lo false 145 [rdP b] h=some (intE.o (kd (numsS s).2.2) (numsS s).1,h.set b (rdC tW (numsS s).2)):=by
 have it:=items_spec hob hlo hl hbl
 have key:L E 145 [rdP b] h lo=some (intE.o (kd (numsS s).2.2) (numsS s).1,h.set b (rdC tW (numsS s).2)):=by
  rw [L_fn F145 rfl]
  simp -implicitDefEqProofs [r145,padS,it]
 rw [ret3t m145,key,Option.map_some,trim_le (by rw [List.length_set];exact Nat.le_refl _)]
end Go.Proofs.YtplebjehcgcdeaaGreatDoor.Bm
namespace Go.Proofs.YtplebjehcgcdeaaGreatDoor.Dw
open Go Go.Lib
def letB (c:UInt8):Bool:=decide (97≤c.toNat) && decide (c.toNat≤122)
def digB (c:UInt8):Bool:=decide (48≤c.toNat) && decide (c.toNat≤57)
def ldB (c:UInt8):Bool:=letB c || digB c
def wordB (l:List UInt8):Bool:=match l with
 | []=>false
 | c :: r=>letB c && decide ((c :: r).length≤20) && (c :: r).all ldB
def blanks (ws:List (List UInt8)):List UInt8:=32 :: ws.flatMap (· ++ [32])
theorem ld_ne {c:UInt8} (h:ldB c=true):c≠32:=by
 rintro rfl
 revert h
 decide
theorem word_ne {l:List UInt8} (h:wordB l=true):32 ∉ l:=by
 unfold wordB at h
 cases l with
 | nil=>simp
 | cons c r =>
  simp only [Bool.and_eq_true,List.all_eq_true] at h
  exact fun hm=>ld_ne (h.2 32 hm) rfl
theorem pre_word:∀ {a b r:List UInt8},32 ∉ a→32 ∉ b→((a++[32]).isPrefixOf (b++32 :: r)=true↔a=b)
 | [],[],r,_,_=>by simp
 | [],y :: b,r,_,hb=>by
  simp only [List.mem_cons,not_or] at hb
  have:((32:UInt8) == y)=false:=by simpa using hb.1
  simp [List.isPrefixOf,this]
 | x :: a,[],r,ha,_=>by
  simp only [List.mem_cons,not_or] at ha
  have:(x == (32:UInt8))=false:=by simpa using fun h=>ha.1 h.symm
  simp [List.isPrefixOf,this]
 | x :: a,y :: b,r,ha,hb=>by
  simp only [List.mem_cons,not_or] at ha hb
  have ih:=pre_word (r:=r) ha.2 hb.2
  simp only [List.cons_append,List.isPrefixOf,Bool.and_eq_true,beq_iff_eq,List.cons.injEq]
  rw [ih]
theorem index_cons {b:UInt8} {l sub:List UInt8}:0≤index (b :: l) sub↔(sub.isPrefixOf (b :: l)=true∨0≤index l sub):=by
 have h:=index_ge l sub
 constructor
 ·intro h'
  unfold index at h'
  split at h'
  ·exact .inl ‹_›
  ·split at h'
   ·exact absurd h' (by decide)
   ·right
    rename_i h1 h2
    have:index l sub≠-1:=by simpa using h2
    omega
 ·intro h'
  unfold index
  split
  ·decide
  ·rename_i h1
   rcases h' with h' | h'
   ·exact absurd h' h1
   ·rw [if_neg (by simp;omega)];omega
theorem index_word {w r s:List UInt8} (hw:32 ∉ w):0≤index (w++r) (32 :: s)↔0≤index r (32 :: s):=by
 induction w with
 | nil=>exact Iff.rfl
 | cons x w ih =>
  simp only [List.mem_cons,not_or] at hw
  have hx:((32:UInt8) == x)=false:=by simpa using hw.1
  show 0≤index (x :: (w++r)) _↔_
  rw [index_cons]
  simp only [List.isPrefixOf,hx,Bool.false_and]
  rw [ih hw.2]
  simp
theorem index_blanks {l:List UInt8} (hl:32 ∉ l):∀ {ws:List (List UInt8)},(∀ w∈ws,32 ∉ w)→(0≤index (blanks ws) (32 :: l++[32])↔l∈ws)
 | [],_=>by
  unfold blanks
  have h1:((32 :: l++[32]).isPrefixOf [32])=false:=by
   cases l <;> simp [List.isPrefixOf]
  rw [List.flatMap_nil,index_cons,h1]
  simp [index]
 | w :: ws,h=>by
  have hw:=h w (by simp)
  have e:blanks (w :: ws)=32 :: (w++blanks ws):=by unfold blanks;simp
  rw [e,index_cons]
  have ih:=index_blanks hl (ws:=ws) fun x hx=>h x (List.mem_cons_of_mem _ hx)
  have hp:(32 :: l++[32]).isPrefixOf (32 :: (w++blanks ws))=true↔l=w:=by
   show ((32:UInt8) == 32 && (l++[32]).isPrefixOf (w++blanks ws))=true↔_
   rw [show ((32:UInt8) == 32)=true from rfl,Bool.true_and]
   exact pre_word hl hw
  rw [hp]
  show _∨0≤index (w++blanks ws) (32 :: (l++[32]))↔_
  rw [index_word hw]
  rw [show (32 :: (l++[32]))=32 :: l++[32] from rfl,ih]
  simp
def resW:List (List UInt8):=[[97,110,100],[97,112,97,114,116],[98,97,115,101],[99,97,112],[100,101,102,105,110,101],[101,108,115,101],[101,120,99,101,112,116],[102,114,111,109],[103,114,97,99,101],[104,111,117,114,115],[105,102],[105,110],[108,101,97,115,116],[110,111,116],[111,114],[111,118,101,114,108,97,121],[112,108,97,110,101],[114,117,108,101],[115,108,111,112,101],[115,117,110],[116,97,98,108,101],[116,104,101,110],[117,110,116,105,108],[117,115,101,115],[118,97,114,121],[118,105,101,119],[122,111,110,101]]
def nameB (l:List UInt8):Bool:=wordB l && !decide (l∈resW)
theorem resW_ne:∀ w∈resW,32 ∉ w:=by decide
theorem cont_res {l:List UInt8} (hl:wordB l=true):contains (blanks resW) (32 :: l++[32])=decide (l∈resW):=by
 unfold contains
 exact decide_eq_decide.2 (index_blanks (word_ne hl) resW_ne)
end Go.Proofs.YtplebjehcgcdeaaGreatDoor.Dw
namespace Go.Proofs.YtplebjehcgcdeaaGreatDoor.Dw
open Go Go.Lib
def rightRB (x0 y0 x1 y1:Int):Bool:=decide (0≤x0) && decide (x0<x1) && decide (x1≤1048576) && decide (0≤y0) && decide (y0<y1) && decide (y1≤1048576)
def rightV (v:Vol):Bool:=rightRB v.x0 v.y0 v.x1 v.y1 && decide (0≤v.z0) && decide (v.z0<v.z1) && decide (v.z1≤4096) && (decide (v.use=0) || decide (v.units=0)) && decide (0≤v.use) && decide (v.use<6) && decide (0≤v.units) && decide (v.units≤1048576)
def meetV (a b:Vol):Bool:=decide (max a.x0 b.x0<min a.x1 b.x1) && decide (max a.y0 b.y0<min a.y1 b.y1) && decide (a.z0<b.z1) && decide (b.z0<a.z1)
def volsB:List Vol→List Vol→Bool
 | _,[]=>true
 | pre,v :: r=>rightV v && !pre.any (fun w=>meetV v w) && volsB (pre++[v]) r
def givesB:List (List UInt8)→List Ent→Bool
 | _,[]=>true
 | pre,e :: r=>!decide (e.1∈pre) && nameB e.1 && decide (0≤e.2) && decide (e.2≤1073741824) && givesB (pre++[e.1]) r
def phsB (p:Phs):Bool:=givesB [] p.gives && decide (p.gives.length≤30)
def Drw.all (d:Drw):List Vol:=d.phs.flatMap Phs.vols
def formB (d:Drw):Bool:=decide (0≤d.lot) && decide (d.lot≤1073741824) && decide (1≤d.phs.length) && decide (d.phs.length≤8) && decide (1≤d.all.length) && decide (d.all.length≤40) && volsB [] d.all && d.phs.all phsB
theorem volsB_right:∀ (l pre:List Vol),volsB pre l=true→∀ v∈l,rightV v=true
 | [],_,_,v,hv=>by cases hv
 | x :: l,pre,h,v,hv=>by
  unfold volsB at h
  simp only [Bool.and_eq_true] at h
  rcases List.mem_cons.1 hv with rfl | hv
  ·exact h.1.1
  ·exact volsB_right l _ h.2 v hv
theorem flat_len:∀ {l:List Phs} {p:Phs},p∈l→p.vols.length≤(l.flatMap Phs.vols).length
 | x :: l,p,hp=>by
  rw [List.flatMap_cons,List.length_append]
  rcases List.mem_cons.1 hp with rfl | hp
  ·omega
  ·have:=flat_len hp;omega
end Go.Proofs.YtplebjehcgcdeaaGreatDoor.Dw
