/-
 Code with all that its types say written in place: what the machine does on it is what it does on the code. Conditions: none.
-/
import Derived.Test.YtplebjehcgcdeaaGreatDoorQU13
namespace Go.Proofs.YtplebjehcgcdeaaGreatDoor.Bm
open Go Go.RowKit
structure TI where
 ag:Option Bool
 sz:Option Nat
def tiOf (P:Program) (t:TypeId):TI:=⟨aggT P t,szOf P t⟩
def ofCellsT (k:TI) (rd:Nat→Option (List Value)):Option Value :=
 match k.ag with
 | some true=>k.sz.bind fun n=>(rd n).map fun cs=>.agg cs.toArray
 | some false=>(rd 1).bind fun cs=>cs[0]?
 | none=>none
def fitsTT (k:TI) (v:Value):Bool :=
 match k.ag,v with
 | some true,.agg cs=>k.sz == some cs.size
 | some false,v=>one v
 | _,_=>false
def loadT (k:TI) (h:Heap):Value→Option Value
 | .pointer (some a)=>ofCellsT k (rdN h a)
 | .func (.yield 2) ⟨[v]⟩ _=>if fitsTT k v then some v else none
 | _=>none
def storeT (sz:Option Nat) (h:Heap) (lo:Nat) (x:Value):Value→Option Heap
 | .pointer (some a)=>(cellsOf x).bind fun cs=>if sz=some cs.length then wrN h lo a cs else none
 | _=>none
def partT (k:TI) (cs:Array Value) (off:Nat):Option Value :=
 match k.ag with
 | some true=>k.sz.map fun n=>.agg (cs.extract off (off+n))
 | some false=>cs[off]?
 | none=>none
def fiOf (P:Program) (t:TypeId) (f:Nat):Option (Nat × TI) :=
 match P.underlying t with
 | some (.struct fs)=>(fs[f]?).map fun fd=>(fd.offset,tiOf P fd.type)
 | _=>none
def fieldT (fi:Option (Nat × TI)):Value→Option Value
 | .agg cs=>fi.bind fun fd=>partT fd.2 cs fd.1
 | _=>none
def fieldAddrT (k:TI) (fi:Option (Nat × TI)):Value→Option Value
 | .pointer (some a)=>fi.bind fun fd=>match fd.2.sz with
   | some (_+1)=>some (.pointer (some (shift a fd.1)))
   | _=>none
 | .func (.yield 2) ⟨[v]⟩ _=>if fitsTT k v then fi.bind fun fd=>match fd.2.sz with
    | some (_+1)=>(fieldT fi v).map cptr
    | _=>none
  else none
 | _=>none
inductive Ix where
 | arr (n:Nat) (k:TI)
 | sl (e:TypeId) (k:TI)
 | str
 | no
def ixOf (P:Program) (t:TypeId):Ix :=
 match P.underlying t with
 | some (.array n e)=>.arr n (tiOf P e)
 | some (.slice e)=>.sl e (tiOf P e)
 | some .string=>.str
 | _=>.no
def indexAddrT (ix:Ix) (x i:Value):Option Value :=
 match i with
 | .int _ n=>match ix,x with
  | .arr len k,.pointer (some a)=>if 0≤n∧n<len then k.sz.map fun s=>.pointer (some (shift a (n.toNat * s))) else none
  | .sl _ k,.slice (some a) len _=>if 0≤n∧n<len then k.sz.map fun s=>.pointer (some (shift a (n.toNat * s))) else none
  | .sl _ k,.func (.yield c) _ ⟨l⟩=>if c<2∧0≤n then (l[n.toNat]?).bind fun v=>if fitsTT k v && k.sz == some (cellsL v).length then some (cptr v) else none else none
  | .arr len k,.func (.yield c) a _=>if c=2∧0≤n∧n<len then (oneAgg a).bind fun cs=>(k.sz.bind fun s=>partT k cs (n.toNat * s)).map cptr else none
  | _,_=>none
 | _=>none
def indexT (ix:Ix) (x i:Value):Option Value :=
 match i with
 | .int _ n=>match ix,x with
  | .arr len k,.agg cs=>if 0≤n∧n<len then k.sz.bind fun s=>partT k cs (n.toNat * s) else none
  | .str,.string s=>if 0≤n then (s[n.toNat]?).map fun b=>.int .u8 b.toNat else none
  | _,_=>none
 | _=>none
def sliceT (ix:Ix) (h:Heap) (x:Value) (lo hi mx:Option Value):Option Value :=
 match ix,x with
 | .str,.string s=>if mx.isSome then none else
  (bound hi s.size s.size).bind fun u=>(bound lo u 0).map fun l=>.string (s.extract l u)
 | .sl _ k,.slice none 0 0=>k.sz.bind fun _=>if mx.isSome && hi.isNone then none else
  (bound mx 0 0).bind fun m=>(bound hi m 0).bind fun u=>(bound lo u 0).map fun _=>.slice none 0 0
 | .sl _ k,.slice (some a) len cap =>
  k.sz.bind fun s=>if fitsRow h a s then
   (if mx.isSome && hi.isNone then none else
   (bound mx cap cap).bind fun m=>(bound hi m len).bind fun u=>(bound lo u 0).map fun l=>rowSl mx.isSome a s m u l)
   else none
 | .sl _ k,.func (.yield c) _ ⟨l⟩=>k.sz.bind fun s =>
  if c<2∧l.all (fun v=>(cellsL v).length == s)=true∧¬ (mx.isSome && hi.isNone)=true then
   (bound mx l.length l.length).bind fun m=>(bound hi m l.length).bind fun u=>(bound lo u 0).map fun b=>lst ((c == 1 || mx.isSome) && u == m) ((l.take u).drop b)
  else none
 | _,_=>none
inductive Cv where
 | int (k:IntKind)
 | str
 | bytes
 | no
def cvOf0 (P:Program) (s d:TypeId):Cv :=
 match P.underlying s,P.underlying d with
 | some _,some (.int k)=>.int k
 | some _,some .string=>.str
 | _,_=>.no
def cvOf (P:Program) (s d:TypeId):Cv :=
 match byK P s d with
 | 0=>cvOf0 P s d
 | 1=>.bytes
 | _=>.no
def convertT (c:Cv) (x:Value):Option Value :=
 match c,x with
 | .int k,.int _ n=>some (.int k (k.wrap n))
 | .str,.string s=>some (.string s)
 | _,_=>none
def convertH (c:Cv) (h:Heap) (x:Value):Option Value :=
 match c with
 | .bytes=>bytesH h x
 | c=>convertT c x
inductive Bl where
 | fs (z:Array Value) (places:Array (Nat × Nat))
 | arr (z:Array Value) (s:Nat)
 | no
def blOf (P:Program) (t:TypeId):Bl :=
 match (P.info? t).bind (·.zero) with
 | some z=>if flat z then
   match P.underlying t with
   | some (.struct fs)=>match fs.mapM fun f=>(szOf P f.type).map fun n=>(f.offset,n) with
    | some pl=>.fs z.cells pl
    | none=>.no
   | some (.array _ e)=>match szOf P e with | some s=>.arr z.cells s | none=>.no
   | _=>.no
  else .no
 | none=>.no
def buildT (b:Bl) (parts:Array (Nat × Value)):Option Value :=
 if !parts.toList.all (fun p=>okPart p.2) then none else
 match b with
 | .fs z pl=>(Instr.fill (pl[·]?) z parts.toList).map .agg
 | .arr z s=>(Instr.fill (fun i=>some (i * s,s)) z parts.toList).map .agg
 | .no=>none
structure El where
 e:TypeId
 size:Nat
 bytes:Nat
 z:Value
 k:TI
def elOf (P:Program) (t:TypeId):Option El :=
 match P.underlying t with
 | some (.slice e)=>(P.info? e).bind fun i=>(i.zero).bind fun z=>if flat z then some ⟨e,i.size,i.bytes,z,tiOf P e⟩ else none
 | _=>none
def elemsT (k:TI) (len:Nat) (cs:List Value):Option (List Value) :=
 match k.ag,k.sz with
 | some false,some 1=>some cs
 | some true,some s=>some (chunk s len cs)
 | _,_=>none
def buildSliceT (el:Option El) (lv:Bool) (h:Heap) (len:Nat) (parts:Array (Nat × Value)):Res :=
 el.bind fun l =>
  if len * l.size > 2 ^ 24∨(len * l.size≠0∧l.z.cells.size=0)∨!parts.toList.all (fun p=>okPart p.2) then none else
  (Instr.fill (fun j=>some (j * l.size,l.size)) (if len * l.size=0 then #[] else zeros l.z (len * l.size)) parts.toList).bind fun cs =>
   if lv && cs.size != 0 then some (.slice (some ⟨h.length,0,some cs.toList.length⟩) len len,h++[.cells l.e cs.toList l.size])
   else if cs.toList.all (settled depth) then (elemsT l.k len cs.toList).map fun x=>(lst true x,h)
   else some (.slice (some ⟨h.length,0,none⟩) len len,h++[.cells l.e cs.toList 0])
def makeSliceT (el:Option El) (h:Heap) (len cap:Value):Res :=
 match len,cap with
 | .int _ l,.int _ c=>el.bind fun i =>
  if 0≤l∧l≤c∧c≤9223372036854775807∧i.bytes * c≤2 ^ 47∧i.z.cells.size≠0 then
   some (.slice (some ⟨h.length,0,none⟩) l.toNat c.toNat,h++[.cells i.e (zeros i.z (c.toNat * i.size)).toList 0])
  else none
 | _,_=>none
def apOf (P:Program) (ts:Array TypeId):Option El :=
 match (ts[0]?).bind P.underlying,(ts[1]?).bind P.underlying with
 | some (.slice e),some (.slice e')=>if e≠e' then none else (P.info? e).bind fun i=>(i.zero).bind fun z =>
  if i.size=0∨i.bytes=0∨!flat z∨z.cells.size≠i.size then none else some ⟨e,i.size,i.bytes,z,tiOf P e⟩
 | _,_=>none
def anOf (P:Program) (ts:Array TypeId):Option El :=
 match (ts[0]?).bind P.underlying with
 | some (.slice e)=>(P.info? e).bind fun i=>(i.zero).bind fun z =>
  if i.size=0∨i.bytes=0∨!flat z∨z.cells.size≠i.size then none else some ⟨e,i.size,i.bytes,z,tiOf P e⟩
 | _=>none
def appendNT (el:Option El) (h:Heap) (d x:Value):Res :=
 el.bind fun i=>match d,x with
  | .slice none 0 0,.int _ m=>if 0<m∧m.toNat * i.bytes≤2 ^ 47 then
    some (.slice (some ⟨h.length,0,some (zeros i.z (m.toNat * i.size)).toList.length⟩) m.toNat m.toNat,h++[.cells i.e (zeros i.z (m.toNat * i.size)).toList i.size]) else none
  | _,_=>none
def str1 (P:Program) (ts:Array TypeId):Bool:=match ts[0]? with | some t=>rowSz P t == some 1 | none=>false
def strOf (P:Program) (ts:Array TypeId):Option El:=match ts[0]? with | some t=>apOf P #[t,t] | none=>none
def appendT (el:Option El) (h:Heap) (lo:Nat) (strict:Bool) (d x:Value):Res :=
 el.bind fun i=>(sliceCells h i.size x).bind fun new =>
  match d with
  | .slice none 0 0=>if new.2=0 then some (.slice none 0 0,h) else
   if new.2 * i.bytes≤2 ^ 47 then some (.slice (some ⟨h.length,0,some new.1.length⟩) new.2 new.2,h++[.cells i.e new.1 i.size]) else none
  | .func (.yield k) _ ⟨l⟩=>if new.2=0 then (if k<2 then some (d,h) else none) else
   if k=1∧l.all (fun v=>(cellsL v).length == i.size)=true∧(l.length+new.2) * i.bytes≤2 ^ 47 then
    some (.slice (some ⟨h.length,0,some (l.flatMap cellsL++new.1).length⟩) (l.length+new.2) (l.length+new.2),h++[.cells i.e (l.flatMap cellsL++new.1) i.size]) else none
  | .slice (some a) len cap =>
   if len+new.2≤cap then
    if new.2=0 then (if fitsRow h a i.size then some (.slice (some a) len cap,h) else none) else
    if strict || !fitsRow h a i.size then none else (wrN h lo (shift a (len * i.size)) new.1).map fun h'=>(.slice (some a) (len+new.2) cap,h')
   else if (len+new.2) * i.bytes≤2 ^ 47 then
    match h[a.block]?,a.spot with
    | some (.cells _ c 0),none=>if a.off+len * i.size≤c.length then
      some (.slice (some ⟨h.length,0,some ((c.drop a.off).take (len * i.size)++new.1).length⟩) (len+new.2) (len+new.2),h++[.cells i.e ((c.drop a.off).take (len * i.size)++new.1) i.size]) else none
    | some (.cells t c (g+1)),some k=>if strict || !decide (lo≤a.block) || k != c.length || g+1 != i.size || a.off != 0 || cap * i.size != c.length || t != i.e then none else
      some (.slice (some ⟨a.block,0,some (c.take (len * i.size)++new.1).length⟩) (len+new.2) (len+new.2),h.set a.block (.cells t (c.take (len * i.size)++new.1) (g+1)))
    | _,_=>none
   else none
  | _=>none
def appendST (b:Bool) (el:Option El) (h:Heap) (lo:Nat) (strict:Bool) (d x:Value):Res :=
 match x with | .string s=>if b then appendT el h lo strict d (lst true (bytesV s)) else none | _=>none
inductive Ln where
 | str | arr (n:Nat) | sl | map | cap | no
def lnOf (P:Program) (ts:Array TypeId):Ln :=
 match (ts[0]?).bind P.underlying with
 | some .string=>.str
 | some (.array n _)=>.arr n
 | some (.slice _)=>.sl
 | some (.map _ _)=>.map
 | _=>.no
def caOf (P:Program) (ts:Array TypeId):Ln :=
 match (ts[0]?).bind P.underlying with
 | some (.slice _)=>.cap
 | _=>.no
def lenT (l:Ln) (h:Heap) (x:Value):Option Value :=
 match l,x with
 | .str,.string s=>some (.int .i64 s.size)
 | .arr n,_=>some (.int .i64 n)
 | .sl,.slice _ n _=>some (.int .i64 n)
 | .sl,.func (.yield k) _ ⟨l⟩=>if k<2 then some (.int .i64 l.length) else none
 | .map,.map none=>some (.int .i64 0)
 | .map,.map (some r)=>match h[r]? with | some (.map es _)=>some (.int .i64 es.length) | _=>none
 | .cap,.slice none 0 0=>some (.int .i64 0)
 | .cap,.slice (some a) _ c=>if a.spot.isNone then some (.int .i64 c) else none
 | .cap,.func (.yield k) _ ⟨l⟩=>if k=1 then some (.int .i64 l.length) else none
 | _,_=>none
def cpOf (P:Program) (ts:Array TypeId):Option Nat :=
 match (ts[0]?).bind P.underlying with
 | some (.slice e)=>szOf P e
 | _=>none
def copyT (sz:Option Nat) (h:Heap) (lo:Nat) (d x:Value):Res :=
 match d with
 | .slice da dl _=>sz.bind fun s=>(sliceCells h s x).bind fun new =>
  if dl=0∨new.2=0 then some (.int .i64 0,h) else
  match da with
  | some a=>if fitsRow h a s then (wrN h lo a (new.1.take (min new.2 dl * s))).map fun h'=>(.int .i64 (min new.2 dl:Nat),h') else none
  | _=>none
 | _=>none
structure MT where
 kt:TypeId
 z:Option Value
def mtOf (P:Program) (t:TypeId):Option MT :=
 match P.underlying t with
 | some (.map kt et)=>some ⟨kt,zeroOf P et⟩
 | _=>none
def lookupT (P:Program) (mt:Option MT) (h:Heap) (x k:Value) (ok:Bool):Option Value:=mt.bind fun mt =>
 if flat k && keyOk P 4 mt.kt k then (entriesOf h x).bind fun es=>(aFind P mt.kt k es 0).bind fun r=>match r with
  | some (_,v)=>some (if ok then .tuple #[v,.bool true] else v)
  | none=>mt.z.map fun z=>if ok then .tuple #[z,.bool false] else z
 else none
def mapPutT (P:Program) (mt:Option MT) (h:Heap) (lo:Nat) (m k x:Value):Option Heap:=mt.bind fun mt=>(putEntry P h lo mt.kt m k (fun _=>x) (some x)).map (·.2)
def mapEntryT (P:Program) (mt:Option MT) (h:Heap) (lo:Nat) (m k:Value):Res:=mt.bind fun mt=>(putEntry P h lo mt.kt m k id mt.z).map fun r=>(.tuple #[r.1.1,.int .i64 r.1.2],r.2)
inductive ROp where
 | mv (x:Operand)
 | pick (c a b:Operand)
 | alloc (t:TypeId) (z:Option Value)
 | box (t:TypeId) (x:Operand)
 | build (b:Bl) (parts:Array (Nat × Operand))
 | buildSlice (el:Option El) (lv:Bool) (len:Nat) (parts:Array (Nat × Operand))
 | load (k:TI) (a:Operand)
 | store (sz:Option Nat) (a x:Operand)
 | nilCheck (x:Operand)
 | bin (op:BinOp) (t:TypeId) (x y:Operand)
 | binN (op:BinOp) (x y:Operand)
 | un (op:UnOp) (x:Operand)
 | convert (c:Cv) (x:Operand)
 | makeFunc (f:FuncId) (first captured:Array Operand)
 | makeSlice (el:Option El) (l c:Operand)
 | makeMap (r:Option Operand)
 | lookup (mt:Option MT) (x k:Operand) (ok:Bool)
 | mapPut (mt:Option MT) (m k x:Operand)
 | mapEntry (mt:Option MT) (m k:Operand)
 | entryStore (m s x:Operand)
 | slice (ix:Ix) (x:Operand) (lo hi mx:Option Operand)
 | fieldAddr (k:TI) (fi:Option (Nat × TI)) (x:Operand)
 | field (fi:Option (Nat × TI)) (x:Operand)
 | indexAddr (ix:Ix) (x i:Operand)
 | index (ix:Ix) (x i:Operand)
 | extract (x:Operand) (i:Nat)
 | call (f:Operand) (args:List Operand)
 | len (l:Ln) (x:Operand)
 | append (el:Option El) (d x:Operand)
 | appendN (el:Option El) (d x:Operand)
 | appendS (b:Bool) (el:Option El) (d x:Operand)
 | copy (sz:Option Nat) (d x:Operand)
 | clear (ts:Array TypeId) (x:Operand)
 | minmax (mx:Bool) (l:List Operand)
 | no
def ropOf (P:Program) (live:TypeId→List (Nat × Operand)→Bool):Op→ROp
 | .move x=>.mv x
 | .assign x=>.mv x
 | .pick c a b=>.pick c a b
 | .alloc t=>.alloc t ((P.info? t).bind (·.zero))
 | .box t x=>.box t x
 | .build t parts=>.build (blOf P t) parts
 | .buildSlice t len parts=>.buildSlice (elOf P t) (live t parts.toList) len parts
 | .load t a=>.load (tiOf P t) a
 | .store t a x=>.store (szOf P t) a x
 | .nilCheck x=>.nilCheck x
 | .binOp op t x y _=>if litNil y && isIfc P t then .binN op x y else .bin op t x y
 | .unOp op _ x=>.un op x
 | .convert s d x=>.convert (cvOf P s d) x
 | .makeFunc (.func f) a b=>.makeFunc f a b
 | .makeSlice t l c=>.makeSlice (elOf P t) l c
 | .makeMap _ r=>.makeMap r
 | .lookup t x k ok=>.lookup (mtOf P t) x k ok
 | .mapUpdate t m k x=>.mapPut (mtOf P t) m k x
 | .insert t m k x=>.mapPut (mtOf P t) m k x
 | .mapEntry t m k=>.mapEntry (mtOf P t) m k
 | .entryStore _ m s x=>.entryStore m s x
 | .slice t x lo hi mx=>.slice (ixOf P t) x lo hi mx
 | .fieldAddr s x f=>.fieldAddr (tiOf P s) (fiOf P s f) x
 | .field t x f=>.field (fiOf P t f) x
 | .indexAddr t x i=>.indexAddr (ixOf P t) x i
 | .index t x i=>.index (ixOf P t) x i
 | .extract x i=>.extract x i
 | .call c=>match c.callee with
  | .value f=>.call f c.args.toList
  | .builtin b=>match b,c.args.toList with
   | .len,[x]=>.len (lnOf P c.argTypes) x
   | .cap,[x]=>.len (caOf P c.argTypes) x
   | .append,[d,x]=>if isIntT P c.argTypes then .appendN (anOf P c.argTypes) d x else if isStrT P c.argTypes then .appendS (str1 P c.argTypes) (strOf P c.argTypes) d x else .append (apOf P c.argTypes) d x
   | .copy,[d,x]=>.copy (cpOf P c.argTypes) d x
   | .clear,[x]=>.clear c.argTypes x
   | .min,l=>.minmax false l
   | .max,l=>.minmax true l
   | _,_=>.no
  | _=>.no
 | _=>.no
def ropR (E:Env) (C:Callee) (lo:Nat) (strict:Bool) (op:ROp) (ρ:Operand→Value) (h:Heap):Res :=
 let v (r:Option Value):Res:=r.map (·,h)
 match op with
 | .mv x=>some (ρ x,h)
 | .pick c a b=>match ρ c with | .bool t=>some (if t then ρ a else ρ b,h) | _=>none
 | .alloc t z=>z.bind fun z=>if flat z then aBox h t z else none
 | .box t x=>aBox h t (ρ x)
 | .build b parts=>v (buildT b (parts.map fun (i,x)=>(i,ρ x)))
 | .buildSlice el lv len parts=>buildSliceT el lv h len (parts.map fun (i,x)=>(i,ρ x))
 | .load k a=>if strict && !(isCp (ρ a) || isLow lo h (ρ a)) then none else v (loadT k h (ρ a))
 | .store sz a x=>if strict then none else (storeT sz h lo (ρ x) (ρ a)).map fun h'=>(undef,h')
 | .nilCheck x=>match ρ x with
  | .pointer (some a)=>some (.pointer (some a),h)
  | .func (.yield 2) a b=>some (.func (.yield 2) a b,h)
  | .func (.func f) fst cap=>some (.func (.func f) fst cap,h)
  | _=>none
 | .bin op t x y=>v (aBin E.P op t (ρ x) (ρ y))
 | .binN op x y=>v (nilR op (ρ x) (ρ y))
 | .un op x=>v (aUn op (ρ x))
 | .convert c x=>v (convertH c h (ρ x))
 | .makeFunc f first captured=>some (.func (.func f) (first.map ρ) (captured.map ρ),h)
 | .makeSlice el l c=>makeSliceT el h (ρ l) (ρ c)
 | .makeMap r=>aMakeMap h (r.map ρ)
 | .lookup mt x k ok=>v (lookupT E.P mt h (ρ x) (ρ k) ok)
 | .mapPut mt m k x=>if strict then none else (mapPutT E.P mt h lo (ρ m) (ρ k) (ρ x)).map fun h'=>(undef,h')
 | .mapEntry mt m k=>if strict then none else mapEntryT E.P mt h lo (ρ m) (ρ k)
 | .entryStore m s x=>if strict then none else (aEntryStore h lo (ρ m) (ρ s) (ρ x)).map fun h'=>(undef,h')
 | .slice ix x lo hi mx=>if strict && !isTr (ρ x) then none else v (sliceT ix h (ρ x) (lo.map ρ) (hi.map ρ) (mx.map ρ))
 | .fieldAddr k fi x=>v (fieldAddrT k fi (ρ x))
 | .field fi x=>v (fieldT fi (ρ x))
 | .indexAddr ix x i=>v (indexAddrT ix (ρ x) (ρ i))
 | .index ix x i=>v (indexT ix (ρ x) (ρ i))
 | .extract x i=>match ρ x with | .tuple vs=>v (vs[i]?) | _=>none
 | .call f args=>aCall E C lo strict (ρ f) (args.map ρ) h
 | .len l x=>v (lenT l h (ρ x))
 | .append el d x=>appendT el h lo strict (ρ d) (ρ x)
 | .appendN el d x=>appendNT el h (ρ d) (ρ x)
 | .appendS b el d x=>appendST b el h lo strict (ρ d) (ρ x)
 | .copy sz d x=>if strict then none else copyT sz h lo (ρ d) (ρ x)
 | .clear ts x=>if strict then none else aClear E.P h lo ts (ρ x)
 | .minmax mx l=>v (aMinMax mx (l.map ρ))
 | .no=>none
section
variable {P:Program}
theorem fits_T (t:TypeId) (v:Value):fitsT P t v=fitsTT (tiOf P t) v:=rfl
theorem load_T (h:Heap) (t:TypeId) (v:Value):aLoad P h t v=loadT (tiOf P t) h v:=by
 unfold aLoad loadT;rfl
theorem store_T (h:Heap) (lo:Nat) (t:TypeId) (x v:Value):aStore P h lo t x v=storeT (szOf P t) h lo x v:=by
 unfold aStore storeT;rfl
theorem fi_struct {t:TypeId} {f:Nat} {fs:Array Field} (hu:P.underlying t=some (.struct fs)):fiOf P t f=(fs[f]?).map fun fd=>(fd.offset,tiOf P fd.type):=by
 unfold fiOf;rw [hu]
theorem fi_other {t:TypeId} {f:Nat} (hu:∀ fs,P.underlying t≠some (.struct fs)):fiOf P t f=none:=by
 unfold fiOf
 split
 ·exact absurd ‹_› (hu _)
 ·rfl
theorem field_T (t:TypeId) (f:Nat) (v:Value):aField P t f v=fieldT (fiOf P t f) v:=by
 unfold aField fieldT
 cases v <;> try rfl
 simp only
 by_cases hu:∃ fs,P.underlying t=some (.struct fs)
 ·obtain ⟨fs,hu⟩:=hu
  simp only [fi_struct hu,hu]
  cases fs[f]? <;> rfl
 ·rw [fi_other fun fs h=>hu ⟨fs,h⟩]
  split
  ·exact absurd ⟨_,‹_›⟩ hu
  ·rfl
theorem fieldAddr_T (t:TypeId) (f:Nat) (v:Value):aFieldAddr P t f v=fieldAddrT (tiOf P t) (fiOf P t f) v:=by
 unfold aFieldAddr fieldAddrT
 simp only [field_T,fits_T]
 by_cases hu:∃ fs,P.underlying t=some (.struct fs)
 ·obtain ⟨fs,hu⟩:=hu
  simp only [fi_struct hu,hu]
  cases fs[f]? <;> rfl
 ·rw [fi_other fun fs h=>hu ⟨fs,h⟩]
  cases hd:P.underlying t with
  | none=>rfl
  | some d=>cases d <;> first | rfl | exact absurd ⟨_,hd⟩ hu
theorem indexAddr_T (t:TypeId) (x i:Value):aIndexAddr P t x i=indexAddrT (ixOf P t) x i:=by
 unfold aIndexAddr indexAddrT ixOf
 cases i <;> try rfl
 simp only
 cases P.underlying t with
 | none=>rfl
 | some d=>cases d <;> first | rfl | (cases x <;> first | rfl | (rename_i a;cases a <;> rfl) | (rename_i a n c;cases a <;> first | rfl | (cases n <;> cases c <;> rfl)) | (rename_i fn _ b;cases fn <;> first | rfl | (cases b;rfl)))
theorem index_T (t:TypeId) (x i:Value):aIndex P t x i=indexT (ixOf P t) x i:=by
 unfold aIndex indexT ixOf
 cases i <;> try rfl
 simp only
 cases P.underlying t with
 | none=>rfl
 | some d=>cases d <;> first | rfl | (cases x <;> first | rfl | (rename_i a;cases a <;> rfl) | (rename_i a n c;cases a <;> first | rfl | (cases n <;> cases c <;> rfl)) | (rename_i fn _ b;cases fn <;> first | rfl | (cases b;rfl)))
theorem slice_T (h:Heap) (t:TypeId) (x:Value) (lo hi mx:Option Value):aSlice P h t x lo hi mx=sliceT (ixOf P t) h x lo hi mx:=by
 unfold aSlice sliceT ixOf
 cases P.underlying t with
 | none=>rfl
 | some d=>cases d <;> first | rfl | (cases x <;> first | rfl | (rename_i a;cases a <;> rfl) | (rename_i a n c;cases a <;> first | rfl | (cases n <;> cases c <;> rfl)) | (rename_i fn _ b;cases fn <;> first | rfl | (cases b;rfl)))
theorem convert_T0 (s d:TypeId) (x:Value):aConvert P s d x=convertT (cvOf0 P s d) x:=by
 unfold aConvert convertT cvOf0
 cases P.underlying s with
 | none=>rfl
 | some a =>
  cases P.underlying d with
  | none=>rfl
  | some b=>cases b <;> first | rfl | (cases x <;> rfl)
theorem convert_T1 (h:Heap) (s d:TypeId) (x:Value):convertH (cvOf0 P s d) h x=convertT (cvOf0 P s d) x:=by
 unfold cvOf0
 split <;> rfl
theorem convert_T (h:Heap) (s d:TypeId) (x:Value):aConvertH P h s d x=convertH (cvOf P s d) h x:=by
 have k:=(convert_T0 (P:=P) s d x).trans (convert_T1 h s d x).symm
 unfold aConvertH cvOf
 generalize byK P s d=n
 match n with
 | 0=>exact k
 | 1=>rfl
 | _+2=>rfl
theorem build_T (t:TypeId) (parts:Array (Nat × Value)):aBuild P t parts=buildT (blOf P t) parts:=by
 unfold aBuild buildT blOf
 cases hz:(P.info? t).bind (·.zero) with
 | none=>simp
 | some z =>
  simp only [Option.bind_some]
  by_cases hf:flat z=true
  ·simp only [hf,Bool.not_true,Bool.false_or,if_true]
   split
   ·rfl
   ·cases P.underlying t with
    | none=>rfl
    | some d =>
     cases d <;> try rfl
     ·rename_i e
      simp only
      cases szOf P e <;> rfl
     ·rename_i fs
      simp only
      cases (fs.mapM fun f=>(szOf P f.type).map fun n=>(f.offset,n)) <;> rfl
  ·simp [hf]
theorem elems_T (e:TypeId) (len:Nat) (cs:List Value):elemsOf P e len cs=elemsT (tiOf P e) len cs:=rfl
theorem buildSlice_T (lv:Bool) (h:Heap) (t:TypeId) (len:Nat) (parts:Array (Nat × Value)):aBuildSlice P lv h t len parts=buildSliceT (elOf P t) lv h len parts:=by
 unfold aBuildSlice buildSliceT elOf
 cases P.underlying t with
 | none=>rfl
 | some d =>
  cases d <;> try rfl
  rename_i e
  simp only
  cases P.info? e with
  | none=>rfl
  | some i =>
   simp only [Option.bind_some]
   cases i.zero with
   | none=>rfl
   | some z =>
    simp only [Option.bind_some]
    by_cases hf:flat z=true
    ·simp [hf,elems_T]
    ·simp [hf]
theorem makeSlice_T (h:Heap) (t:TypeId) (l c:Value):aMakeSlice P h t l c=makeSliceT (elOf P t) h l c:=by
 unfold aMakeSlice makeSliceT elOf
 cases P.underlying t with
 | none=>cases l <;> cases c <;> rfl
 | some d =>
  cases d <;> cases l <;> cases c <;> try rfl
  rename_i e _ _ _ _
  simp only
  cases P.info? e with
  | none=>rfl
  | some i =>
   simp only [Option.bind_some]
   cases i.zero with
   | none=>rfl
   | some z =>
    simp only [Option.bind_some]
    by_cases hf:flat z=true
    ·simp [hf]
    ·simp [hf]
theorem append_T (E:Env) (h:Heap) (lo:Nat) (strict:Bool) (ts:Array TypeId) (d x:Value):aAppend E h lo strict ts d x=appendT (apOf E.P ts) h lo strict d x:=by
 unfold aAppend appendT apOf
 cases (ts[0]?).bind E.P.underlying with
 | none=>rfl
 | some a =>
  cases (ts[1]?).bind E.P.underlying with
  | none=>cases a <;> rfl
  | some b =>
   cases a <;> cases b <;> try rfl
   rename_i e e'
   simp only
   split
   ·rfl
   ·cases E.P.info? e with
    | none=>rfl
    | some i =>
     simp only [Option.bind_some]
     cases i.zero with
     | none=>rfl
     | some z =>
      simp only [Option.bind_some]
      split
      ·rfl
      ·rfl
theorem appendN_T (h:Heap) (ts:Array TypeId) (d x:Value):aAppendN P h ts d x=appendNT (anOf P ts) h d x:=by
 unfold aAppendN appendNT anOf
 cases (ts[0]?).bind P.underlying with
 | none=>rfl
 | some a =>
  cases a <;> try rfl
  rename_i e
  simp only
  cases P.info? e with
  | none=>rfl
  | some i =>
   simp only [Option.bind_some]
   cases i.zero with
   | none=>rfl
   | some z =>
    simp only [Option.bind_some]
    split
    ·rfl
    ·rfl
theorem append2_T (E:Env) (C:Callee) (lo:Nat) (strict:Bool) (ts:Array TypeId) (d x:Operand) (ρ:Operand→Value) (h:Heap) :
  aAppend2 E h lo strict ts (ρ d) (ρ x)=ropR E C lo strict (if isIntT E.P ts then .appendN (anOf E.P ts) d x else if isStrT E.P ts then .appendS (str1 E.P ts) (strOf E.P ts) d x else .append (apOf E.P ts) d x) ρ h:=by
 unfold aAppend2
 split
 ·exact appendN_T h ts _ _
 split
 ·show aAppendS E h lo strict ts (ρ d) (ρ x)=appendST (str1 E.P ts) (strOf E.P ts) h lo strict (ρ d) (ρ x)
  unfold aAppendS appendST str1 strOf
  cases ts[0]? with
  | none=>cases ρ x <;> rfl
  | some t=>cases ρ x <;> simp [append_T]
 ·exact append_T E h lo strict ts _ _
theorem len_T (E:Env) (h:Heap) (ts:Array TypeId) (x:Value):aLen E h ts x=lenT (lnOf E.P ts) h x:=by
 unfold aLen lenT lnOf
 cases (ts[0]?).bind E.P.underlying with
 | none=>rfl
 | some d=>cases d <;> first | rfl | (cases x <;> first | rfl | (rename_i a;cases a <;> rfl) | (rename_i a n c;cases a <;> first | rfl | (cases n <;> cases c <;> rfl)) | (rename_i fn _ b;cases fn <;> first | rfl | (cases b;rfl)))
theorem cap_T (h:Heap) (ts:Array TypeId) (x:Value):aCap P ts x=lenT (caOf P ts) h x:=by
 unfold aCap lenT caOf
 cases (ts[0]?).bind P.underlying with
 | none=>rfl
 | some d=>cases d <;> first | rfl | (cases x <;> first | rfl | (rename_i a;cases a <;> rfl) | (rename_i a n c;cases a <;> first | rfl | (cases n <;> cases c <;> rfl)) | (rename_i fn _ b;cases fn <;> first | rfl | (cases b;rfl)))
theorem copy_T (E:Env) (h:Heap) (lo:Nat) (ts:Array TypeId) (d x:Value):aCopy E h lo ts d x=copyT (cpOf E.P ts) h lo d x:=by
 unfold aCopy copyT cpOf
 cases (ts[0]?).bind E.P.underlying with
 | none=>cases d <;> rfl
 | some t=>cases t <;> cases d <;> rfl
theorem lookup_T (h:Heap) (t:TypeId) (x k:Value) (ok:Bool):aLookup P h t x k ok=lookupT P (mtOf P t) h x k ok:=by
 unfold aLookup lookupT mtOf
 cases P.underlying t with
 | none=>rfl
 | some d=>cases d <;> rfl
theorem mapPut_T (h:Heap) (lo:Nat) (t:TypeId) (m k x:Value):aMapPut P h lo t m k x=mapPutT P (mtOf P t) h lo m k x:=by
 unfold aMapPut mapPutT mtOf
 cases P.underlying t with
 | none=>rfl
 | some d=>cases d <;> rfl
theorem mapEntry_T (h:Heap) (lo:Nat) (t:TypeId) (m k:Value):aMapEntry P h lo t m k=mapEntryT P (mtOf P t) h lo m k:=by
 unfold aMapEntry mapEntryT mtOf
 cases P.underlying t with
 | none=>rfl
 | some d=>cases d <;> rfl
theorem rop_eq (E:Env) (C:Callee) (lo:Nat) (strict:Bool) (op:Op) (ρ:Operand→Value) (h:Heap):aop E C lo strict op ρ h=ropR E C lo strict (ropOf E.P E.live op) ρ h:=by
 cases op with
 | move x=>rfl
 | assign x=>rfl
 | pick c a b=>rfl
 | alloc t=>rfl
 | box t x=>rfl
 | build t parts=>simp only [aop,ropOf,ropR,build_T]
 | buildSlice t len parts=>simp only [aop,ropOf,ropR,buildSlice_T]
 | load t a=>simp only [aop,ropOf,ropR,load_T]
 | store t a x=>simp only [aop,ropOf,ropR,store_T]
 | nilCheck x=>rfl
 | binOp op t x y z =>
  simp only [aop,ropOf,aBinO]
  split <;> rfl
 | unOp op t x=>rfl
 | convert s d x=>simp only [aop,ropOf,ropR,convert_T]
 | makeFunc f a b=>cases f <;> rfl
 | makeSlice t l c=>simp only [aop,ropOf,ropR,makeSlice_T]
 | makeMap t r=>rfl
 | lookup t x k ok=>simp only [aop,ropOf,ropR,lookup_T]
 | mapUpdate t m k x=>simp only [aop,ropOf,ropR,mapPut_T]
 | insert t m k x=>simp only [aop,ropOf,ropR,mapPut_T]
 | mapEntry t m k=>simp only [aop,ropOf,ropR,mapEntry_T]
 | entryStore t m s x=>rfl
 | slice t x lo hi mx=>simp only [aop,ropOf,ropR,slice_T]
 | fieldAddr s x f=>simp only [aop,ropOf,ropR,fieldAddr_T]
 | field t x f=>simp only [aop,ropOf,ropR,field_T]
 | indexAddr t x i=>simp only [aop,ropOf,ropR,indexAddr_T]
 | index t x i=>simp only [aop,ropOf,ropR,index_T]
 | extract x i=>rfl
 | call c =>
  simp only [aop,ropOf]
  cases hc:c.callee with
  | value f=>rfl
  | builtin b =>
   simp only
   cases b <;> first
    | rfl
    | (match hl:c.args.toList with
     | []=>simp only [List.map] <;> rfl
     | [x]=>simp only [List.map,ropR,len_T,cap_T (h:=h)] <;> rfl
     | [x,y]=>first | exact append2_T E C lo strict c.argTypes x y ρ h | (simp only [List.map,ropR,copy_T] <;> rfl)
     | x :: y :: z :: r=>simp only [List.map] <;> rfl)
  | _=>rfl
 | _=>rfl
end
structure RI where
 dst:Option Tmp
 guard:Option (Option Tmp × Bool)
 strict:Bool
 op:ROp
inductive RCode where
 | skip
 | region (dirs:List Dir) (l:List RI)
 | regionQ (dirs:List Dir) (s:Nat) (l:List (RI × Bool))
 | seq (a b:RCode)
 | cond (c:Operand) (a b:RCode)
 | block (id:Nat) (a:RCode)
 | loop (kill:List Nat × List Nat) (a:RCode)
 | scope (a:RCode)
 | exit (id:Nat)
 | ret
 | no
def riOf (P:Program) (live:TypeId→List (Nat × Operand)→Bool) (ops:Array Oper) (x:Oper × Bool):RI:=⟨x.1.dst,x.1.guard.map fun g=>((ops[g.1]?).bind (·.dst),g.2),x.2,ropOf P live x.1.op⟩
def rcOf (E:Env) (f:FuncId):Code→RCode
 | .skip=>.skip
 | .label _=>.skip
 | .region id ops draw=>match calmS (E.prep f id),draw with
  | some s,true=>.regionQ (E.prep f id) s ((withRace E (stillIn (E.prep f id)) ops).map fun x=>(riOf E.P E.live ops x.1,x.2))
  | _,_=>.region (E.prep f id) ((withStrict E (stillIn (E.prep f id)) draw ops).map (riOf E.P E.live ops))
 | .seq a b=>.seq (rcOf E f a) (rcOf E f b)
 | .cond c a b=>.cond c (rcOf E f a) (rcOf E f b)
 | .block id a=>.block id (rcOf E f a)
 | .loop a=>.loop (E.kill f ((firstReg a).getD 0)) (rcOf E f a)
 | .scope a=>.scope (rcOf E f a)
 | .exit id=>.exit id
 | .ret=>.ret
 | _=>.no
def guardR (g:Option (Option Tmp × Bool)) (σ:Slots):Option Bool :=
 match g with
 | none=>some true
 | some (s,want)=>match s.bind (σ[·]?) with
  | some (.bool b)=>some (b == want)
  | some (.chan (some _))=>some false
  | _=>none
def bndK {α:Type} (r:Res) (k:Value→Heap→Option α):Option α:=r.bind fun r=>k r.1 r.2
def grdK {α:Type} (g:Option Bool) (a b:Option α):Option α:=match g with | some true=>a | some false=>b | none=>none
def seqK (r:CRes) (k:Body):CRes:=r.bind fun r=>match r.1 with | .normal=>k r.2.1 r.2.2 | _=>some r
def cndK (v:Value) (a b:CRes):CRes:=match v with | .bool true=>a | .bool false=>b | _=>none
def blkK (id:Nat) (r:CRes):CRes:=r.map fun r=>match r.1 with | .exit id'=>if id'=id then (.normal,r.2) else r | _=>r
def scpK (r:CRes):CRes:=r.bind fun r=>match r.1 with | .goto _=>none | _=>some r
def regK (r:Option (Slots × Heap)):CRes:=r.map fun r=>(.normal,r.1,r.2)
def preK (r:Option (Slots × Heap)) (k:Slots→Heap→Option (Slots × Heap)):Option (Slots × Heap):=r.bind fun r=>k r.1 r.2
def runR (E:Env) (C:Callee) (lo:Nat):List RI→Slots→Heap→Option (Slots × Heap)
 | [],σ,h=>some (σ,h)
 | o :: rest,σ,h=>grdK (guardR o.guard σ)
  (bndK (ropR E C lo o.strict o.op (evalA E σ) h) fun v h'=>runR E C lo rest (putA σ o.dst v) h')
  (runR E C lo rest (putA σ o.dst skipV) h)
def calmR (cm:Nat × Nat) (h:Heap) (op:ROp) (ρ:Operand→Value):Bool :=
 match op with
 | .load _ a=>match ρ a with
  | .pointer (some ad)=>ad.block == cm.1 && (h[cm.1]?).any (belowO cm.2)
  | _=>false
 | _=>false
def runRQ (E:Env) (C:Callee) (lo:Nat) (cm:Nat × Nat):List (RI × Bool)→Slots→Heap→Option (Slots × Heap)
 | [],σ,h=>some (σ,h)
 | (o,race) :: rest,σ,h=>grdK (guardR o.guard σ)
  (bndK (ropR E C lo (o.strict && !calmR cm h o.op (evalA E σ)) o.op (evalA E σ) h) fun v h'=>if race && !sameO h[cm.1]? h'[cm.1]? then none else runRQ E C lo cm rest (putA σ o.dst v) h')
  (runRQ E C lo cm rest (putA σ o.dst skipV) h)
def evR (E:Env) (C:Callee) (Lp:List Nat × List Nat→Body→Body) (lo:Nat):RCode→Body
 | .skip,σ,h=>some (.normal,σ,h)
 | .region dirs l,σ,h=>regK (preK (prepare E.P lo dirs σ h) fun σ h=>runR E C (lowF (fixS dirs) σ lo h) l σ h)
 | .regionQ dirs s l,σ,h=>regK (preK (prepare E.P lo dirs σ h) fun σ h=>(calmB s σ h).bind fun cm=>runRQ E C lo cm l σ h)
 | .seq a b,σ,h=>seqK (evR E C Lp lo a σ h) (evR E C Lp lo b)
 | .cond c a b,σ,h=>cndK (evalA E σ c) (evR E C Lp lo a σ h) (evR E C Lp lo b σ h)
 | .block id a,σ,h=>blkK id (evR E C Lp lo a σ h)
 | .loop k a,σ,h=>Lp k (evR E C Lp lo a) σ h
 | .scope a,σ,h=>scpK (evR E C Lp lo a σ h)
 | .exit id,σ,h=>some (.exit id,σ,h)
 | .ret,σ,h=>some (.ret,σ,h)
 | .no,_,_=>none
section
variable {E:Env} {C:Callee} {lo:Nat}
theorem run_eq (ops:Array Oper):∀ (l:List (Oper × Bool)) (σ:Slots) (h:Heap),runOps E C lo ops l σ h=runR E C lo (l.map (riOf E.P E.live ops)) σ h
 | [],σ,h=>rfl
 | (o,st) :: l,σ,h=>by
  have hg:guardA ops σ o=guardR (riOf E.P E.live ops (o,st)).guard σ:=by
   unfold guardA guardR riOf
   cases o.guard with
   | none=>rfl
   | some g=>rfl
  simp only [runOps,List.map_cons,runR,← hg,run_eq ops l,rop_eq]
  unfold grdK
  cases guardA ops σ o with
  | none=>rfl
  | some b=>cases b <;> rfl
theorem rop_load_of {P:Program} {live:TypeId→List (Nat × Operand)→Bool} {op:Op} {k:TI} {x:Operand} (h:ropOf P live op=.load k x):∃ t,op=.load t x:=by
 cases op with
 | load t a=>exact ⟨t,by cases h;rfl⟩
 | binOp op t a b c=>simp only [ropOf] at h;split at h <;> cases h
 | makeFunc fn a b=>cases fn <;> cases h
 | call c =>
  simp only [ropOf] at h
  split at h
  ·cases h
  ·split at h <;> try (cases h;done)
   split at h
   ·cases h
   ·split at h <;> cases h
  ·cases h
 | _=>cases h
theorem calm_rop {live:TypeId→List (Nat × Operand)→Bool} {P:Program} {cm:Nat × Nat} {h:Heap} {op:Op} {ρ:Operand→Value} (hn:∀ k x,ropOf P live op=.load k x→∃ t,op=.load t x) (hl:∀ t x,op=.load t x→∃ k,ropOf P live op=.load k x) :
  calmL cm h op ρ=calmR cm h (ropOf P live op) ρ:=by
 unfold calmL calmR
 split
 ·rename_i t a
  obtain ⟨k,hk⟩:=hl _ _ rfl
  rw [hk]
  rfl
 ·rename_i h0
  split
  ·rename_i k x hk
   obtain ⟨t,rfl⟩:=hn _ _ hk
   exact absurd rfl (h0 _ _)
  ·rfl
theorem runQ_eq (ops:Array Oper) {cm:Nat × Nat}:∀ (l:List ((Oper × Bool) × Bool)) (σ:Slots) (h:Heap),runQ E C lo cm ops l σ h=runRQ E C lo cm (l.map fun x=>(riOf E.P E.live ops x.1,x.2)) σ h
 | [],σ,h=>rfl
 | ((o,st),rc) :: l,σ,h=>by
  have hg:guardA ops σ o=guardR (riOf E.P E.live ops (o,st)).guard σ:=by
   unfold guardA guardR riOf
   cases o.guard with
   | none=>rfl
   | some g=>rfl
  have hc:calmL cm h o.op (evalA E σ)=calmR cm h (ropOf E.P E.live o.op) (evalA E σ):=calm_rop (fun k x=>rop_load_of) fun t x e=>⟨tiOf E.P t,by rw [e];rfl⟩
  simp only [runQ,List.map_cons,runRQ,← hg,runQ_eq ops l,rop_eq,hc]
  unfold grdK
  cases guardA ops σ o with
  | none=>rfl
  | some b=>cases b <;> rfl
theorem code_eq {f:FuncId} {Lp:List Nat × List Nat→Body→Body}:∀ c:Code,evG E f C Lp lo c=evR E C Lp lo (rcOf E f c)
 | .skip=>rfl
 | .label _=>rfl
 | .region id ops draw=>by
  funext σ h
  simp only [evG,rcOf]
  unfold runReg
  cases hq:calmS (E.prep f id) with
  | none =>
   simp only [evR,run_eq]
   unfold regK preK
   cases prepare E.P lo (E.prep f id) σ h <;> rfl
  | some s =>
   cases draw with
   | false =>
    simp only [evR,run_eq]
    unfold regK preK
    cases prepare E.P lo (E.prep f id) σ h <;> rfl
   | true =>
    simp only [evR,runQ_eq]
    unfold regK preK
    cases prepare E.P lo (E.prep f id) σ h <;> rfl
 | .seq a b=>by
  funext σ h
  simp only [evG,rcOf,evR,code_eq a,code_eq b]
  try rfl
 | .cond c a b=>by
  funext σ h
  simp only [evG,rcOf,evR,code_eq a,code_eq b]
  try rfl
 | .block id a=>by
  funext σ h
  simp only [evG,rcOf,evR,code_eq a]
  try rfl
 | .loop a=>by
  funext σ h
  simp only [evG,rcOf,evR,code_eq a]
  try rfl
 | .scope a=>by
  funext σ h
  simp only [evG,rcOf,evR,code_eq a]
  try rfl
 | .exit id=>rfl
 | .ret=>rfl
 | .rangeFunc ..=>rfl
 | .refuse ..=>rfl
 | .goto ..=>rfl
end
end Go.Proofs.YtplebjehcgcdeaaGreatDoor.Bm
