/-
 The abstract machine, second form: a deterministic big-step evaluator for translated Go code over trees (data that does not change any more) and a heap of objects. Own work: definitions alone. Conditions: none.
-/
import Derived.Calls
import Derived.Orders
import Derived.Scope
import Derived.Below
namespace Go.Proofs.YtplebjehcgcdeaaGreatDoor.Bm
open Go
inductive AObj where
 | cells (t:TypeId) (c:List Value) (g:Nat)
 | dead
 | map (es:List MapEntry) (clock:Nat)
abbrev Heap:=List AObj
abbrev Slots:=List Value
inductive Dir where
 | frz (slot:Nat)
 | new (slot:Nat) (t:TypeId)
 | top (slot:Nat)
 | news (slot:Nat) (t:TypeId)
 | newc (slot off:Nat) (t:TypeId)
 | still
 | late (slot:Nat)
 | fix (slot:Nat)
 | calm (slot:Nat)
abbrev Res:=Option (Value × Heap)
abbrev Callee:=FuncId→List Value→Heap→Nat→Res
structure Env where
 P:Program
 glob:Nat→Option Value
 mode:FuncId→Nat
 kill:FuncId→Nat→List Nat × List Nat
 prep:FuncId→Nat→List Dir
 orc:FuncId→Option (List Value→Heap→Nat→Res)
 live:TypeId→List (Nat × Operand)→Bool
 gany:List Nat:=[]
 tabs:List (Nat × Array Value):=[]
 dm:Bool:=true
def atom:Value→Bool
 | .bool _ | .int _ _ | .float _ _ | .complex _ _ _ | .string _ | .pointer none | .nilFunc | .nilIface | .map none | .chan none=>true
 | .slice none 0 0=>true
 | _=>false
def flat:Value→Bool
 | .agg cs=>cs.all atom
 | v=>atom v
def scalar:Value→Bool
 | .tuple vs=>vs.all flat
 | v=>flat v
def skipV:Value:=.chan (some 0)
def cellsOf:Value→Option (List Value)
 | .agg cs=>some cs.toList
 | .tuple _=>none
 | .chan (some _)=>none
 | v=>some [v]
def szOf (P:Program) (t:TypeId):Option Nat:=(P.info? t).map (·.size)
def aggT (P:Program) (t:TypeId):Option Bool:=(P.underlying t).map fun | .struct _=>true | .array _ _=>true | _=>false
def shift (a:Addr) (n:Nat):Addr:={ a with off:=a.off+n }
def lst (x:Bool) (l:List Value):Value:=.func (.yield (if x then 1 else 0)) ⟨[]⟩ ⟨l⟩
def cptr (v:Value):Value:=.func (.yield 2) ⟨[v]⟩ ⟨[]⟩
def cellsL:Value→List Value
 | .agg cs=>cs.toList
 | v=>[v]
def settled:Nat→Value→Bool
 | 0,_=>false
 | n+1,v=>match v with
  | .pointer (some _)=>false
  | .slice (some _) _ _=>false
  | .map (some _)=>false
  | .tuple _=>false
  | .chan (some _)=>false
  | .agg ⟨cs⟩=>cs.all (settled n)
  | .func (.yield _) _ _=>true
  | .func _ ⟨a⟩ ⟨b⟩=>a.all (settled n) && b.all (settled n)
  | .iface _ v=>settled n v
  | _=>true
def below:Nat→Nat→Value→Bool
 | 0,_,_=>false
 | d+1,n,v=>match v with
  | .pointer (some a)=>decide (a.block<n)
  | .slice (some a) _ _=>decide (a.block<n)
  | .map (some r)=>decide (r<n)
  | .agg ⟨cs⟩=>cs.all (below d n)
  | .tuple ⟨cs⟩=>cs.all (below d n)
  | .func (.yield _) _ _=>true
  | .func _ ⟨a⟩ ⟨b⟩=>a.all (below d n) && b.all (below d n)
  | .iface _ v=>below d n v
  | _=>true
def one:Value→Bool
 | .agg _=>false
 | .tuple _=>false
 | .chan (some _)=>false
 | _=>true
def depth:Nat:=8
def belowO (n:Nat):AObj→Bool
 | .cells _ c _=>c.all (below depth n)
 | .dead=>true
 | .map es _=>es.all fun e=>below depth n e.key && below depth n e.val
def trim (n:Nat) (vs:List Value) (h:Heap):Heap :=
 if h.length≤n then h else if vs.all (below depth n) && (h.take n).all (belowO n) then h.take n else h
def stampOk (s:Option Nat) (g n:Nat):Bool :=
 match s,g with
 | none,0=>true
 | some k,_+1=>k == n
 | _,_=>false
def rowOf (h:Heap) (a:Addr):Option (List Value) :=
 match h[a.block]? with
 | some (.cells _ c g)=>if stampOk a.spot g c.length then some c else none
 | _=>none
def rdN (h:Heap) (a:Addr) (n:Nat):Option (List Value) :=
 (rowOf h a).bind fun c=>if a.off+n≤c.length then some ((c.drop a.off).take n) else none
def splice (c:List Value) (off:Nat) (vs:List Value):List Value:=c.take off++vs++c.drop (off+vs.length)
def wrN (h:Heap) (lo:Nat) (a:Addr) (vs:List Value):Option Heap :=
 match h[a.block]? with
 | some (.cells t c g)=>if lo≤a.block∧stampOk a.spot g c.length=true∧0<vs.length∧a.off+vs.length≤c.length then some (h.set a.block (.cells t (splice c a.off vs) g)) else none
 | _=>none
def ofCells (P:Program) (t:TypeId) (rd:Nat→Option (List Value)):Option Value :=
 match aggT P t with
 | some true=>(szOf P t).bind fun n=>(rd n).map fun cs=>.agg cs.toArray
 | some false=>(rd 1).bind fun cs=>cs[0]?
 | none=>none
def fitsT (P:Program) (t:TypeId) (v:Value):Bool :=
 match aggT P t,v with
 | some true,.agg cs=>szOf P t == some cs.size
 | some false,v=>one v
 | _,_=>false
def aLoad (P:Program) (h:Heap) (t:TypeId):Value→Option Value
 | .pointer (some a)=>ofCells P t (rdN h a)
 | .func (.yield 2) ⟨[v]⟩ _=>if fitsT P t v then some v else none
 | _=>none
def isTr:Value→Bool
 | .slice none 0 0=>true
 | .func (.yield _) _ _=>true
 | _=>false
def isCp:Value→Bool
 | .func (.yield 2) _ _=>true
 | _=>false
def isLow (n:Nat) (h:Heap):Value→Bool
 | .pointer (some a)=>decide (a.block<n) && (h[a.block]?).any (belowO n)
 | _=>false
def aStore (P:Program) (h:Heap) (lo:Nat) (t:TypeId) (x:Value):Value→Option Heap
 | .pointer (some a)=>(cellsOf x).bind fun cs=>if szOf P t=some cs.length then wrN h lo a cs else none
 | _=>none
def ptrTo (h:Heap):Value:=.pointer (some ⟨h.length,0,none⟩)
def aBox (h:Heap) (t:TypeId) (x:Value):Res:=(cellsOf x).map fun cs=>(ptrTo h,h++[.cells t cs 0])
def aAlloc (P:Program) (h:Heap) (t:TypeId):Res:=((P.info? t).bind (·.zero)).bind fun z=>if flat z then aBox h t z else none
def aPart (P:Program) (t:TypeId) (cs:Array Value) (off:Nat):Option Value :=
 match aggT P t with
 | some true=>(szOf P t).map fun n=>.agg (cs.extract off (off+n))
 | some false=>cs[off]?
 | none=>none
def aField (P:Program) (t:TypeId) (f:Nat):Value→Option Value
 | .agg cs=>match P.underlying t with
  | some (.struct fs)=>(fs[f]?).bind fun fd=>aPart P fd.type cs fd.offset
  | _=>none
 | _=>none
def aFieldAddr (P:Program) (t:TypeId) (f:Nat):Value→Option Value
 | .pointer (some a)=>match P.underlying t with
  | some (.struct fs)=>(fs[f]?).bind fun fd=>match szOf P fd.type with
   | some (_+1)=>some (.pointer (some (shift a fd.offset)))
   | _=>none
  | _=>none
 | .func (.yield 2) ⟨[v]⟩ _=>if fitsT P t v then match P.underlying t with
   | some (.struct fs)=>(fs[f]?).bind fun fd=>match szOf P fd.type with
    | some (_+1)=>(aField P t f v).map cptr
    | _=>none
   | _=>none
  else none
 | _=>none
def aPartOf (P:Program) (e:TypeId) (cs:Array Value) (i:Nat):Option Value:=(szOf P e).bind fun s=>aPart P e cs (i * s)
def oneAgg (a:Array Value):Option (Array Value):=match a with | ⟨[.agg cs]⟩=>some cs | _=>none
def aIndexAddr (P:Program) (t:TypeId) (x i:Value):Option Value :=
 match i with
 | .int _ n=>match P.underlying t,x with
  | some (.array len e),.pointer (some a)=>if 0≤n∧n<len then (szOf P e).map fun s=>.pointer (some (shift a (n.toNat * s))) else none
  | some (.slice e),.slice (some a) len _=>if 0≤n∧n<len then (szOf P e).map fun s=>.pointer (some (shift a (n.toNat * s))) else none
  | some (.slice e),.func (.yield k) _ ⟨l⟩=>if k<2∧0≤n then (l[n.toNat]?).bind fun v=>if fitsT P e v && szOf P e == some (cellsL v).length then some (cptr v) else none else none
  | some (.array len e),.func (.yield k) a _=>if k=2∧0≤n∧n<len then (oneAgg a).bind fun cs=>(aPartOf P e cs n.toNat).map cptr else none
  | _,_=>none
 | _=>none
def aIndex (P:Program) (t:TypeId) (x i:Value):Option Value :=
 match i with
 | .int _ n=>match P.underlying t,x with
  | some (.array len e),.agg cs=>if 0≤n∧n<len then (szOf P e).bind fun s=>aPart P e cs (n.toNat * s) else none
  | some .string,.string s=>if 0≤n then (s[n.toNat]?).map fun b=>.int .u8 b.toNat else none
  | _,_=>none
 | _=>none
def bound (v:Option Value) (y dflt:Nat):Option Nat :=
 match v with
 | none=>some dflt
 | some (.int _ n)=>if 0≤n∧n≤y then some n.toNat else none
 | some _=>none
def fitsRow (h:Heap) (a:Addr) (s:Nat):Bool :=
 match h[a.block]? with | some (.cells _ c g)=>stampOk a.spot g c.length && (g == 0 || g == s) | _=>false
def rowSl (x:Bool) (a:Addr) (s m u l:Nat):Value:=if x && m == l then lst true [] else .slice (some (shift a (l * s))) (u-l) (m-l)
def aSlice (P:Program) (h:Heap) (t:TypeId) (x:Value) (lo hi mx:Option Value):Option Value :=
 match P.underlying t,x with
 | some .string,.string s=>if mx.isSome then none else
  (bound hi s.size s.size).bind fun u=>(bound lo u 0).map fun l=>.string (s.extract l u)
 | some (.slice e),.slice none 0 0=>(szOf P e).bind fun _=>if mx.isSome && hi.isNone then none else
  (bound mx 0 0).bind fun m=>(bound hi m 0).bind fun u=>(bound lo u 0).map fun _=>.slice none 0 0
 | some (.slice e),.slice (some a) len cap =>
  (szOf P e).bind fun s=>if fitsRow h a s then
   (if mx.isSome && hi.isNone then none else
   (bound mx cap cap).bind fun m=>(bound hi m len).bind fun u=>(bound lo u 0).map fun l=>rowSl mx.isSome a s m u l)
   else none
 | some (.slice e),.func (.yield k) _ ⟨l⟩=>(szOf P e).bind fun s =>
  if k<2∧l.all (fun v=>(cellsL v).length == s)=true∧¬ (mx.isSome && hi.isNone)=true then
   (bound mx l.length l.length).bind fun m=>(bound hi m l.length).bind fun u=>(bound lo u 0).map fun b=>lst ((k == 1 || mx.isSome) && u == m) ((l.take u).drop b)
  else none
 | _,_=>none
def aIntOp (op:BinOp) (k:IntKind) (a b:Int):Option Value :=
 match op with
 | .add=>some (.int k (k.wrap (a+b)))
 | .sub=>some (.int k (k.wrap (a-b)))
 | .mul=>some (.int k (k.wrap (a * b)))
 | .quo=>if b=0 then none else some (.int k (k.wrap (a.tdiv b)))
 | .rem=>if b=0 then none else some (.int k (a.tmod b))
 | .and=>some (.int k (k.wrap (BitVec.ofInt k.bits a &&& BitVec.ofInt k.bits b).toNat))
 | .or=>some (.int k (k.wrap (BitVec.ofInt k.bits a ||| BitVec.ofInt k.bits b).toNat))
 | .xor=>some (.int k (k.wrap (BitVec.ofInt k.bits a ^^^ BitVec.ofInt k.bits b).toNat))
 | .andNot=>some (.int k (k.wrap (BitVec.ofInt k.bits a &&& ~~~ BitVec.ofInt k.bits b).toNat))
 | .eql=>some (.bool (a == b))
 | .neq=>some (.bool (a != b))
 | .lss=>some (.bool (decide (a<b)))
 | .leq=>some (.bool (decide (a≤b)))
 | .gtr=>some (.bool (decide (a > b)))
 | .geq=>some (.bool (decide (a ≥ b)))
 | _=>none
def aShift (op:BinOp) (k:IntKind) (a b:Int):Option Value :=
 if b<0 then none else
 match op with
 | .shl=>some (.int k (k.wrap (a * 2 ^ (min b.toNat k.bits))))
 | .shr=>some (.int k (a.fdiv (2 ^ (min b.toNat k.bits))))
 | _=>none
def aStringOp (op:BinOp) (a b:ByteArray):Option Value :=
 match op with
 | .add=>if ((a.size+b.size:Nat):Int) > IntKind.i64.max then none else some (.string (a++b))
 | .eql=>some (.bool (a.toList == b.toList))
 | .neq=>some (.bool (!(a.toList == b.toList)))
 | .lss=>some (.bool (Op.bytesLess a.toList b.toList))
 | .leq=>some (.bool (Op.bytesLess a.toList b.toList || a.toList == b.toList))
 | .gtr=>some (.bool (!(Op.bytesLess a.toList b.toList || a.toList == b.toList)))
 | .geq=>some (.bool (!(Op.bytesLess a.toList b.toList)))
 | _=>none
def allOf:List (Option Bool)→Option Bool
 | []=>some true
 | some true :: r=>allOf r
 | some false :: _=>some false
 | none :: _=>none
def aEq (P:Program):Nat→TypeId→Value→Value→Option Bool
 | 0,_,_,_=>none
 | d+1,t,x,y =>
  match P.underlying t,x,y with
  | some .bool,.bool a,.bool b=>some (a == b)
  | some (.int _),.int k a,.int k' b=>if k=k' then some (a == b) else none
  | some .string,.string a,.string b=>some (a.toList == b.toList)
  | some (.pointer _),.pointer none,.pointer b=>some b.isNone
  | some (.pointer _),.pointer (some _),.pointer none=>some false
  | some (.slice _),.slice none _ _,.slice none _ _=>some true
  | some (.slice _),.slice none _ _,.slice (some _) _ c=>if c=0 then none else some false
  | some (.slice _),.slice none _ _,.func (.yield _) _ ⟨l⟩=>if l.isEmpty then none else some false
  | some (.slice _),.func (.yield _) _ ⟨l⟩,.slice none _ _=>if l.isEmpty then none else some false
  | some (.slice _),.slice (some _) _ c,.slice none _ _=>if c=0 then none else some false
  | some (.map _ _),.map none,.map b=>some b.isNone
  | some (.map _ _),.map (some _),.map none=>some false
  | some (.func _ _ _),.nilFunc,.nilFunc=>some true
  | some (.func _ _ _),.nilFunc,.func (.func _) _ _=>some false
  | some (.func _ _ _),.func (.func _) _ _,.nilFunc=>some false
  | some (.struct fs),.agg xs,.agg ys=>if P.stoodInHeld t then none else
   allOf (fs.toList.map fun f => if f.name ≠ "_" then
    (aPart P f.type xs f.offset).bind fun u=>(aPart P f.type ys f.offset).bind fun v=>aEq P d f.type u v else some true)
  | some (.array len e),.agg xs,.agg ys=>(szOf P e).bind fun n =>
   allOf ((List.range len).map fun i=>(aPart P e xs (i * n)).bind fun u=>(aPart P e ys (i * n)).bind fun v=>aEq P d e u v)
  | _,_,_=>none
def aBin (P:Program) (op:BinOp) (t:TypeId) (x y:Value):Option Value :=
 match x,y with
 | .int k a,.int k' b=>match op with
  | .shl=>aShift op k a b
  | .shr=>aShift op k a b
  | _=>if k=k' then aIntOp op k a b else none
 | .string a,.string b=>aStringOp op a b
 | .agg xs,.agg ys=>if P.eqGuardType P.depth t then none else match op with
  | .eql=>(aEq P Op.maxDepth t (.agg xs) (.agg ys)).map .bool
  | .neq=>(aEq P Op.maxDepth t (.agg xs) (.agg ys)).map fun b=>.bool (!b)
  | _=>none
 | .nilIface,_=>none
 | .float ..,_=>none
 | .complex ..,_=>none
 | x,y=>match op with
  | .eql=>(aEq P Op.maxDepth t x y).map .bool
  | .neq=>(aEq P Op.maxDepth t x y).map fun b=>.bool (!b)
  | _=>none
def litNil:Operand→Bool
 | .const .nilIface=>true
 | _=>false
def nilR (op:BinOp) (a b:Value):Option Value :=
 match op,a,b with
 | .eql,.nilIface,.nilIface=>some (.bool true)
 | .neq,.nilIface,.nilIface=>some (.bool false)
 | .eql,.iface _ _,.nilIface=>some (.bool false)
 | .neq,.iface _ _,.nilIface=>some (.bool true)
 | _,_,_=>none
def isIfc (P:Program) (t:TypeId):Bool:=match P.underlying t with | some (.interface _)=>true | _=>false
def aBinO (P:Program) (op:BinOp) (t:TypeId) (yo:Operand) (x y:Value):Option Value :=
 if litNil yo && isIfc P t then nilR op x y else aBin P op t x y
def aUn (op:UnOp) (x:Value):Option Value :=
 match op,x with
 | .neg,.int k n=>some (.int k (k.wrap (0-n)))
 | .xor,.int k n=>aIntOp .xor k (if k.signed then -1 else k.max) n
 | .not,.bool b=>some (.bool (!b))
 | _,_=>none
def aConvert (P:Program) (src dst:TypeId) (x:Value):Option Value :=
 match P.underlying src,P.underlying dst,x with
 | some _,some (.int k),.int _ n=>some (.int k (k.wrap n))
 | some _,some .string,.string s=>some (.string s)
 | _,_,_=>none
def okPart:Value→Bool
 | .tuple _=>false
 | .chan (some _)=>false
 | _=>true
def aBuild (P:Program) (t:TypeId) (parts:Array (Nat × Value)):Option Value :=
 ((P.info? t).bind (·.zero)).bind fun z=>if !flat z || !parts.toList.all (fun p=>okPart p.2) then none else
 match P.underlying t with
 | some (.struct fs)=>(fs.mapM fun f=>(szOf P f.type).map fun n=>(f.offset,n)).bind fun places=>(Instr.fill (places[·]?) z.cells parts.toList).map .agg
 | some (.array _ e)=>(szOf P e).bind fun s=>(Instr.fill (fun i=>some (i * s,s)) z.cells parts.toList).map .agg
 | _=>none
def zeros (z:Value) (n:Nat):Array Value:=(Array.range n).map (z.cells[· % z.cells.size]!)
def chunk (s:Nat):Nat→List Value→List Value
 | 0,_=>[]
 | n+1,cs=>.agg ⟨cs.take s⟩ :: chunk s n (cs.drop s)
def elemsOf (P:Program) (e:TypeId) (len:Nat) (cs:List Value):Option (List Value) :=
 match aggT P e,szOf P e with
 | some false,some 1=>some cs
 | some true,some s=>some (chunk s len cs)
 | _,_=>none
def aBuildSlice (P:Program) (lv:Bool) (h:Heap) (t:TypeId) (len:Nat) (parts:Array (Nat × Value)):Res :=
 match P.underlying t with
 | some (.slice e)=>(P.info? e).bind fun i=>(i.zero).bind fun z =>
  if len * i.size > 2 ^ 24∨!flat z∨(len * i.size≠0∧z.cells.size=0)∨!parts.toList.all (fun p=>okPart p.2) then none else
  (Instr.fill (fun j=>some (j * i.size,i.size)) (if len * i.size=0 then #[] else zeros z (len * i.size)) parts.toList).bind fun cs =>
   if lv && cs.size != 0 then some (.slice (some ⟨h.length,0,some cs.toList.length⟩) len len,h++[.cells e cs.toList i.size])
   else if cs.toList.all (settled depth) then (elemsOf P e len cs.toList).map fun l=>(lst true l,h)
   else some (.slice (some ⟨h.length,0,none⟩) len len,h++[.cells e cs.toList 0])
 | _=>none
def aMakeSlice (P:Program) (h:Heap) (t:TypeId) (len cap:Value):Res :=
 match P.underlying t,len,cap with
 | some (.slice e),.int _ l,.int _ c=>(P.info? e).bind fun i=>(i.zero).bind fun z =>
  if 0≤l∧l≤c∧c≤9223372036854775807∧i.bytes * c≤2 ^ 47∧flat z=true∧z.cells.size≠0 then
   some (.slice (some ⟨h.length,0,none⟩) l.toNat c.toNat,h++[.cells e (zeros z (c.toNat * i.size)).toList 0])
  else none
 | _,_,_=>none
def sliceCells (h:Heap) (s:Nat):Value→Option (List Value × Nat)
 | .slice none 0 0=>some ([],0)
 | .slice (some a) len _=>if len=0 then some ([],0) else if fitsRow h a s then (rdN h a (len * s)).map (·,len) else none
 | .func (.yield k) _ ⟨l⟩=>if k<2∧l.all (fun v=>(cellsL v).length == s)=true then some (l.flatMap cellsL,l.length) else none
 | _=>none
def numsOf:List Value→Option (List Int)
 | []=>some []
 | .int .u8 n :: l=>(numsOf l).map (n :: ·)
 | _=>none
def strNums (ns:List Int):ByteArray:=ns.foldl (fun r n=>r.push (UInt8.ofNat n.toNat)) ByteArray.empty
def bytesH (h:Heap) (x:Value):Option Value:=(sliceCells h 1 x).bind fun r=>(numsOf r.1).map fun ns=>.string (strNums ns)
def byK (P:Program) (s d:TypeId):Nat :=
 match P.underlying s,P.underlying d with
 | some (.slice e),some .string=>match P.underlying e with
  | some (.int .u8)=>1
  | _=>2
 | _,_=>0
def aConvertH (P:Program) (h:Heap) (src dst:TypeId) (x:Value):Option Value :=
 match byK P src dst with
 | 0=>aConvert P src dst x
 | 1=>bytesH h x
 | _=>none
def aApp (h:Heap) (lo:Nat) (strict:Bool) (e:TypeId) (i:TypeInfo) (new:List Value × Nat) (d:Value):Res :=
 match d with
 | .slice none 0 0=>if new.2=0 then some (.slice none 0 0,h) else
  if new.2 * i.bytes≤2 ^ 47 then some (.slice (some ⟨h.length,0,some new.1.length⟩) new.2 new.2,h++[.cells e new.1 i.size]) else none
 | .func (.yield k) _ ⟨l⟩=>if new.2=0 then (if k<2 then some (d,h) else none) else
  if k=1∧l.all (fun v=>(cellsL v).length == i.size)=true∧(l.length+new.2) * i.bytes≤2 ^ 47 then
   some (.slice (some ⟨h.length,0,some (l.flatMap cellsL++new.1).length⟩) (l.length+new.2) (l.length+new.2),h++[.cells e (l.flatMap cellsL++new.1) i.size]) else none
 | .slice (some a) len cap =>
  if len+new.2≤cap then
   if new.2=0 then (if fitsRow h a i.size then some (.slice (some a) len cap,h) else none) else
   if strict || !fitsRow h a i.size then none else (wrN h lo (shift a (len * i.size)) new.1).map fun h'=>(.slice (some a) (len+new.2) cap,h')
  else if (len+new.2) * i.bytes≤2 ^ 47 then
   match h[a.block]?,a.spot with
   | some (.cells _ c 0),none=>if a.off+len * i.size≤c.length then
     some (.slice (some ⟨h.length,0,some ((c.drop a.off).take (len * i.size)++new.1).length⟩) (len+new.2) (len+new.2),h++[.cells e ((c.drop a.off).take (len * i.size)++new.1) i.size]) else none
   | some (.cells t c (g+1)),some k=>if strict || !decide (lo≤a.block) || k != c.length || g+1 != i.size || a.off != 0 || cap * i.size != c.length || t != e then none else
     some (.slice (some ⟨a.block,0,some (c.take (len * i.size)++new.1).length⟩) (len+new.2) (len+new.2),h.set a.block (.cells t (c.take (len * i.size)++new.1) (g+1)))
   | _,_=>none
  else none
 | _=>none
def aAppend (E:Env) (h:Heap) (lo:Nat) (strict:Bool) (argTypes:Array TypeId) (d x:Value):Res :=
 match (argTypes[0]?).bind E.P.underlying,(argTypes[1]?).bind E.P.underlying with
 | some (.slice e),some (.slice e')=>if e≠e' then none else (E.P.info? e).bind fun i=>(i.zero).bind fun z =>
  if i.size=0∨i.bytes=0∨!flat z∨z.cells.size≠i.size then none else
  (sliceCells h i.size x).bind fun new=>aApp h lo strict e i new d
 | _,_=>none
def isIntT (P:Program) (ts:Array TypeId):Bool:=match (ts[1]?).bind P.underlying with | some (.int _)=>true | _=>false
def aAppendN (P:Program) (h:Heap) (argTypes:Array TypeId) (d x:Value):Res :=
 match (argTypes[0]?).bind P.underlying with
 | some (.slice e)=>(P.info? e).bind fun i=>(i.zero).bind fun z =>
  if i.size=0∨i.bytes=0∨!flat z∨z.cells.size≠i.size then none else
  match d,x with
  | .slice none 0 0,.int _ m=>if 0<m∧m.toNat * i.bytes≤2 ^ 47 then
    some (.slice (some ⟨h.length,0,some (zeros z (m.toNat * i.size)).toList.length⟩) m.toNat m.toNat,h++[.cells e (zeros z (m.toNat * i.size)).toList i.size]) else none
  | _,_=>none
 | _=>none
def isStrT (P:Program) (ts:Array TypeId):Bool:=match (ts[1]?).bind P.underlying with | some .string=>true | _=>false
def bytesV (s:ByteArray):List Value:=s.data.toList.map fun b=>.int .u8 b.toNat
def rowSz (P:Program) (t:TypeId):Option Nat:=match P.underlying t with | some (.slice e)=>szOf P e | _=>none
def aAppendS (E:Env) (h:Heap) (lo:Nat) (strict:Bool) (argTypes:Array TypeId) (d x:Value):Res :=
 match argTypes[0]?,x with
 | some t,.string b=>if rowSz E.P t == some 1 then aAppend E h lo strict #[t,t] d (lst true (bytesV b)) else none
 | _,_=>none
def aAppend2 (E:Env) (h:Heap) (lo:Nat) (strict:Bool) (argTypes:Array TypeId) (d x:Value):Res :=
 if isIntT E.P argTypes then aAppendN E.P h argTypes d x else if isStrT E.P argTypes then aAppendS E h lo strict argTypes d x else aAppend E h lo strict argTypes d x
def aLen (E:Env) (h:Heap) (argTypes:Array TypeId) (x:Value):Option Value :=
 match (argTypes[0]?).bind E.P.underlying,x with
 | some .string,.string s=>some (.int .i64 s.size)
 | some (.array n _),_=>some (.int .i64 n)
 | some (.slice _),.slice _ n _=>some (.int .i64 n)
 | some (.slice _),.func (.yield k) _ ⟨l⟩=>if k<2 then some (.int .i64 l.length) else none
 | some (.map _ _),.map none=>some (.int .i64 0)
 | some (.map _ _),.map (some r)=>match h[r]? with | some (.map es _)=>some (.int .i64 es.length) | _=>none
 | _,_=>none
def aCap (P:Program) (argTypes:Array TypeId) (x:Value):Option Value :=
 match (argTypes[0]?).bind P.underlying,x with
 | some (.slice _),.slice none 0 0=>some (.int .i64 0)
 | some (.slice _),.slice (some a) _ c=>if a.spot.isNone then some (.int .i64 c) else none
 | some (.slice _),.func (.yield k) _ ⟨l⟩=>if k=1 then some (.int .i64 l.length) else none
 | _,_=>none
def aMinMax (mx:Bool):List Value→Option Value
 | .int k x :: rest=>rest.foldlM (init:=.int k x) fun a b=>match a,b with
  | .int k x,.int _ y=>some (.int k (if mx then (if y > x then y else x) else (if y<x then y else x)))
  | _,_=>none
 | _=>none
def aCopy (E:Env) (h:Heap) (lo:Nat) (argTypes:Array TypeId) (d x:Value):Res :=
 match (argTypes[0]?).bind E.P.underlying,d with
 | some (.slice e),.slice da dl _=>(szOf E.P e).bind fun s=>(sliceCells h s x).bind fun new =>
  if dl=0∨new.2=0 then some (.int .i64 0,h) else
  match da with
  | some a=>if fitsRow h a s then (wrN h lo a (new.1.take (min new.2 dl * s))).map fun h'=>(.int .i64 (min new.2 dl:Nat),h') else none
  | _=>none
 | _,_=>none
def aClear (P:Program) (h:Heap) (lo:Nat) (argTypes:Array TypeId) (x:Value):Res :=
 match (argTypes[0]?).bind P.underlying,x with
 | some (.slice _),.slice none 0 0=>some (.tuple #[],h)
 | some (.slice e),.slice (some a) n _=>if n=0 then some (.tuple #[],h) else
  (P.info? e).bind fun i=>(i.zero).bind fun z=>if flat z && fitsRow h a i.size && z.cells.size == i.size then
   (wrN h lo a (Builtin.zeroCells z.cells n).toList).map fun h'=>(.tuple #[],h') else none
 | _,_=>none
def aKeyEq (P:Program) (kt:TypeId) (a b:Value):Option Bool :=
 match P.underlying kt with
 | some (.int k)=>Instr.sameNow (.int k) a b
 | some .string=>Instr.sameNow .string a b
 | some .bool=>Instr.sameNow .bool a b
 | some (.struct _)=>aEq P Op.maxDepth kt a b
 | some (.array _ _)=>aEq P Op.maxDepth kt a b
 | _=>none
def keyOk (P:Program):Nat→TypeId→Value→Bool
 | 0,_,_=>false
 | n+1,t,v=>match P.underlying t,v with
  | some (.int _),.int _ _=>true
  | some .string,.string _=>true
  | some .bool,.bool _=>true
  | some (.array len e),.agg cs=>(List.range len).all fun i=>((szOf P e).bind fun s=>aPart P e cs (i * s)).any (keyOk P n e)
  | some (.struct fs), .agg cs => fs.toList.all fun f => f.name == "_" || (aPart P f.type cs f.offset).any (keyOk P n f.type)
  | _,_=>false
def aFind (P:Program) (kt:TypeId) (k:Value):List MapEntry→Nat→Option (Option (Nat × Value))
 | [],_=>some none
 | e :: es,i=>(aKeyEq P kt k e.key).bind fun b=>if b then some (some (i,e.val)) else aFind P kt k es (i+1)
def entriesOf (h:Heap):Value→Option (List MapEntry)
 | .map none=>some []
 | .map (some r)=>match h[r]? with | some (.map es _)=>some es | _=>none
 | _=>none
def zeroOf (P:Program) (t:TypeId):Option Value:=((P.info? t).bind (·.zero)).bind fun z=>if flat z then some z else none
def aMakeMap (h:Heap) (r:Option Value):Res:=match r with | none=>some (.map (some h.length),h++[.map [] 0]) | _=>none
def aLookup (P:Program) (h:Heap) (t:TypeId) (x k:Value) (ok:Bool):Option Value :=
 match P.underlying t with
 | some (.map kt et)=>if flat k && keyOk P 4 kt k then (entriesOf h x).bind fun es=>(aFind P kt k es 0).bind fun r=>match r with
   | some (_,v)=>some (if ok then .tuple #[v,.bool true] else v)
   | none=>(zeroOf P et).map fun z=>if ok then .tuple #[z,.bool false] else z
  else none
 | _=>none
def putEntry (P:Program) (h:Heap) (lo:Nat) (kt:TypeId) (m k:Value) (old:Value→Value) (new:Option Value):Option ((Value × Nat) × Heap) :=
 match m with
 | .map (some r)=>match h[r]? with
  | some (.map es ck)=>if lo≤r∧flat k=true∧keyOk P 4 kt k=true then (aFind P kt k es 0).bind fun q=>match q with
    | some (i,_)=>(es[i]?).bind fun e=>if Instr.sameBits 10000 e.key k then some ((e.val,e.born),h.set r (.map (es.set i ⟨k,old e.val,e.born⟩) ck)) else none
    | none=>new.map fun x=>((x,ck),h.set r (.map (es++[⟨k,x,ck⟩]) (ck+1)))
   else none
  | _=>none
 | _=>none
def aMapPut (P:Program) (h:Heap) (lo:Nat) (t:TypeId) (m k x:Value):Option Heap :=
 match P.underlying t with
 | some (.map kt _)=>(putEntry P h lo kt m k (fun _=>x) (some x)).map (·.2)
 | _=>none
def aMapEntry (P:Program) (h:Heap) (lo:Nat) (t:TypeId) (m k:Value):Res :=
 match P.underlying t with
 | some (.map kt et)=>(putEntry P h lo kt m k id (zeroOf P et)).map fun r=>(.tuple #[r.1.1,.int .i64 r.1.2],r.2)
 | _=>none
def aEntryStore (h:Heap) (lo:Nat) (m s x:Value):Option Heap :=
 match m,s with
 | .map (some r),.int .i64 n=>match h[r]? with
  | some (.map es ck)=>if lo≤r then (es.findIdx? fun e=>(e.born:Int) == n).bind fun i=>(es[i]?).map fun e=>h.set r (.map (es.set i ⟨e.key,x,e.born⟩) ck) else none
  | _=>none
 | _,_=>none
inductive Cls where
 | pure | read | write
deriving DecidableEq
def reify (P:Program):Nat→Heap→Value→Option Value
 | 0,_,_=>none
 | n+1,h,v =>
  let cellsR (c:List Value):Option (List Value):=if c.all (settled depth) then some c else c.mapM (reify P n h)
  match v with
  | .pointer (some a)=>match h[a.block]? with
   | some (.cells t c 0)=>if a.off=0∧a.spot=none∧szOf P t=some c.length then (cellsR c).bind fun cs=>match aggT P t,cs with
     | some true,cs=>some (cptr (.agg ⟨cs⟩))
     | some false,[x]=>some (cptr x)
     | _,_=>none
    else none
   | _=>none
  | .slice (some a) len _=>if len=0 then some (lst false []) else match h[a.block]? with
   | some (.cells t c g)=>(szOf P t).bind fun s=>if stampOk a.spot g c.length=true∧0<s∧a.off+len * s≤c.length then
     (cellsR ((c.drop a.off).take (len * s))).bind fun cs=>(elemsOf P t len cs).map (lst false) else none
   | _=>none
  | .map (some _)=>none
  | .chan (some _)=>none
  | .agg ⟨cs⟩=>(cellsR cs).map (.agg ⟨·⟩)
  | .func (.yield _) _ _=>some v
  | .func f ⟨a⟩ ⟨b⟩=>(cellsR a).bind fun a=>(cellsR b).map fun b=>.func f ⟨a⟩ ⟨b⟩
  | .tuple _=>none
  | .iface t v=>(reify P n h v).map (.iface t)
  | v=>some v
def reifyR (P:Program) (h:Heap):Value→Option Value
 | .tuple ⟨vs⟩=>(vs.mapM (reify P depth h)).map (.tuple ⟨·⟩)
 | v=>reify P depth h v
def reifyAll (P:Program) (h:Heap) (vs:List Value):Option (List Value):=vs.mapM (reify P depth h)
def pureCall (P:Program) (C:Callee) (f:FuncId) (args:List Value):Option Value:=(C f args [] 0).bind fun r=>reifyR P r.2 r.1
def freezeV (P:Program):Nat→Nat→Heap→Value→Option (Value × Heap)
 | 0,_,_,_=>none
 | n+1,lo,h,v =>
  let all (c:List Value) (h:Heap):Option (List Value × Heap):=if c.all (settled depth) then some (c,h) else
   c.foldlM (init:=([],h)) fun r x=>(freezeV P n lo r.2 x).map fun y=>(r.1++[y.1],y.2)
  match v with
  | .pointer (some a)=>match h[a.block]? with
   | some (.cells t c 0)=>if lo≤a.block∧a.off=0∧a.spot=none∧szOf P t=some c.length then (all c (h.set a.block .dead)).bind fun r=>match aggT P t,r.1 with
     | some true,cs=>some (cptr (.agg ⟨cs⟩),r.2)
     | some false,[x]=>some (cptr x,r.2)
     | _,_=>none
    else none
   | _=>none
  | .slice (some a) len _=>if len=0 then some (lst false [],h) else match h[a.block]? with
   | some (.cells t c g)=>(szOf P t).bind fun s=>if lo≤a.block∧stampOk a.spot g c.length=true∧0<s∧a.off+len * s≤c.length then
     (all ((c.drop a.off).take (len * s)) (h.set a.block .dead)).bind fun r=>(elemsOf P t len r.1).map fun l=>(lst false l,r.2) else none
   | _=>none
  | .agg ⟨cs⟩=>(all cs h).map fun r=>(.agg ⟨r.1⟩,r.2)
  | v=>if settled depth v then some (v,h) else none
def frzAll (P:Program) (lo:Nat) (vs:List Value) (h:Heap):Option (List Value × Heap):=vs.foldlM (init:=([],h)) fun r x=>(freezeV P depth lo r.2 x).map fun y=>(r.1++[y.1],y.2)
def retCall (E:Env) (C:Callee) (lo:Nat) (strict:Bool) (f:FuncId) (args:List Value) (h:Heap):Res :=
 match E.mode f with
 | 0=>(reifyAll E.P h args).bind fun args=>(pureCall E.P C f args).bind fun r=>if scalar r then some (r,h) else none
 | 1=>if args.all (settled depth) then (pureCall E.P C f args).map (·,h) else none
 | 2=>if strict then none else C f args h lo
 | 4=>if strict then none else (frzAll E.P lo args h).bind fun r=>(pureCall E.P C f r.1).map (·,r.2)
 | 5=>(C f args h h.length).bind fun r=>(freezeV E.P depth h.length r.2 r.1).map fun q=>(q.1,trim h.length [q.1] q.2)
 | _=>if strict then none else (C f args h lo).map fun r=>(r.1,trim h.length [r.1] r.2)
def aCall (E:Env) (C:Callee) (lo:Nat) (strict:Bool) (fv:Value) (args:List Value) (h:Heap):Res :=
 match fv with
 | .func (.func f) first captured=>retCall E C lo strict f (first.toList++args++captured.toList) h
 | _=>none
def aop (E:Env) (C:Callee) (lo:Nat) (strict:Bool) (op:Op) (ρ:Operand→Value) (h:Heap):Res :=
 let v (r:Option Value):Res:=r.map (·,h)
 match op with
 | .move x=>some (ρ x,h)
 | .assign x=>some (ρ x,h)
 | .pick c a b=>match ρ c with | .bool t=>some (if t then ρ a else ρ b,h) | _=>none
 | .alloc t=>aAlloc E.P h t
 | .box t x=>aBox h t (ρ x)
 | .build t parts=>v (aBuild E.P t (parts.map fun (i,x)=>(i,ρ x)))
 | .buildSlice t len parts=>aBuildSlice E.P (E.live t parts.toList) h t len (parts.map fun (i,x)=>(i,ρ x))
 | .load t a=>if strict && !(isCp (ρ a) || isLow lo h (ρ a)) then none else v (aLoad E.P h t (ρ a))
 | .store t a x=>if strict then none else (aStore E.P h lo t (ρ x) (ρ a)).map fun h'=>(undef,h')
 | .nilCheck x=>match ρ x with
  | .pointer (some a)=>some (.pointer (some a),h)
  | .func (.yield 2) a b=>some (.func (.yield 2) a b,h)
  | .func (.func f) fst cap=>some (.func (.func f) fst cap,h)
  | _=>none
 | .binOp op t x y _=>v (aBinO E.P op t y (ρ x) (ρ y))
 | .unOp op _ x=>v (aUn op (ρ x))
 | .convert src dst x=>v (aConvertH E.P h src dst (ρ x))
 | .makeFunc (.func f) first captured=>some (.func (.func f) (first.map ρ) (captured.map ρ),h)
 | .makeSlice t l c=>aMakeSlice E.P h t (ρ l) (ρ c)
 | .makeMap _ r=>aMakeMap h (r.map ρ)
 | .lookup t x k ok=>v (aLookup E.P h t (ρ x) (ρ k) ok)
 | .mapUpdate t m k x=>if strict then none else (aMapPut E.P h lo t (ρ m) (ρ k) (ρ x)).map fun h'=>(undef,h')
 | .insert t m k x=>if strict then none else (aMapPut E.P h lo t (ρ m) (ρ k) (ρ x)).map fun h'=>(undef,h')
 | .mapEntry t m k=>if strict then none else aMapEntry E.P h lo t (ρ m) (ρ k)
 | .entryStore _ m s x=>if strict then none else (aEntryStore h lo (ρ m) (ρ s) (ρ x)).map fun h'=>(undef,h')
 | .slice t x lo hi mx=>if strict && !isTr (ρ x) then none else v (aSlice E.P h t (ρ x) (lo.map ρ) (hi.map ρ) (mx.map ρ))
 | .fieldAddr s x f=>v (aFieldAddr E.P s f (ρ x))
 | .field t x f=>v (aField E.P t f (ρ x))
 | .indexAddr t x i=>v (aIndexAddr E.P t (ρ x) (ρ i))
 | .index t x i=>v (aIndex E.P t (ρ x) (ρ i))
 | .extract x i=>match ρ x with | .tuple vs=>v (vs[i]?) | _=>none
 | .call c=>match c.callee with
  | .value f=>aCall E C lo strict (ρ f) (c.args.toList.map ρ) h
  | .builtin b=>match b,c.args.toList.map ρ with
   | .len,[x]=>v (aLen E h c.argTypes x)
   | .cap,[x]=>v (aCap E.P c.argTypes x)
   | .append,[d,x]=>aAppend2 E h lo strict c.argTypes d x
   | .copy,[d,x]=>if strict then none else aCopy E h lo c.argTypes d x
   | .clear,[x]=>if strict then none else aClear E.P h lo c.argTypes x
   | .min,l=>v (aMinMax false l)
   | .max,l=>v (aMinMax true l)
   | _,_=>none
  | _=>none
 | _=>none
def evalA (E:Env) (σ:Slots):Operand→Value
 | .tmp t=>σ.getD t undef
 | .const v=>if flat v then v else undef
 | .global g=>match E.glob g with | some v=>cptr v | none=>undef
 | .func f=>.func (.func f) #[] #[]
def putA (σ:Slots) (dst:Option Tmp) (v:Value):Slots :=
 match dst with
 | some d=>σ.set d v
 | none=>σ
def guardA (ops:Array Oper) (σ:Slots) (o:Oper):Option Bool :=
 match o.guard with
 | none=>some true
 | some (j,want)=>match ((ops[j]?).bind (·.dst)).bind (σ[·]?) with
  | some (.bool b)=>some (b == want)
  | some (.chan (some _))=>some false
  | _=>none
def runOps (E:Env) (C:Callee) (lo:Nat) (ops:Array Oper):List (Oper × Bool)→Slots→Heap→Option (Slots × Heap)
 | [],σ,h=>some (σ,h)
 | (o,strict) :: rest,σ,h =>
  match guardA ops σ o with
  | some true=>(aop E C lo strict o.op (evalA E σ) h).bind fun r=>runOps E C lo ops rest (putA σ o.dst r.1) r.2
  | some false=>runOps E C lo ops rest (putA σ o.dst skipV) h
  | none=>none
def clsOf (E:Env):Op→Cls
 | .move _ | .assign _ | .pick .. | .build .. | .nilCheck _ | .binOp .. | .unOp .. | .makeFunc .. | .fieldAddr .. | .field .. | .indexAddr .. | .index .. | .extract ..=>.pure
 | .alloc _ | .box .. | .buildSlice .. | .load .. | .makeSlice .. | .slice .. | .makeMap .. | .lookup ..=>.read
 | .convert s d _=>match byK E.P s d with
  | 0=>.pure
  | _=>.read
 | .call c=>match c.callee with
  | .builtin b=>match b with
   | .min=>.pure
   | .max=>.pure
   | .len=>.read
   | .cap=>.read
   | _=>.write
  | .value (.func f)=>match E.mode f with
   | 0=>.read
   | 1=>.read
   | _=>.write
  | _=>.write
 | _=>.write
def orderedIn (b:Array Nat) (i j:Nat):Bool:=(b.getD (max i j) 0).testBit (min i j)
def isLoad:Op→Bool
 | .load ..=>true
 | .slice ..=>true
 | _=>false
def stillAt (E:Env) (sl:Bool) (ops:Array Oper) (b:Array Nat) (i:Nat) (o:Oper):Bool :=
 (sl && isLoad o.op) && !((List.range ops.size).all fun j=>j == i || (ops[j]?).all (fun p=>!(clsOf E p.op == .write)) || orderedIn b i j)
def quietAt (E:Env) (sl:Bool) (ops:Array Oper) (b:Array Nat) (i:Nat) (o:Oper):Bool:=clsOf E o.op == .pure || stillAt E sl ops b i o
def strictAt (E:Env) (sl:Bool) (ops:Array Oper) (b:Array Nat) (i:Nat) (o:Oper):Bool :=
 stillAt E sl ops b i o || (clsOf E o.op == .write && !((List.range ops.size).all fun j=>j == i || (ops[j]?).all (fun p=>quietAt E sl ops b j p) || orderedIn b i j))
def withStrict (E:Env) (sl draw:Bool) (ops:Array Oper):List (Oper × Bool) :=
 if draw then
  let b:=Region.before ops
  ops.toList.zipIdx.map fun (o,i)=>(o,strictAt E sl ops b i o)
 else ops.toList.map (·,false)
def raceAt (E:Env) (sl:Bool) (ops:Array Oper) (b:Array Nat) (i:Nat) (o:Oper):Bool :=
 clsOf E o.op == .write && (List.range ops.size).any fun j=>(ops[j]?).any (fun p=>stillAt E sl ops b j p) && !orderedIn b i j
def withRace (E:Env) (sl:Bool) (ops:Array Oper):List ((Oper × Bool) × Bool) :=
 let b:=Region.before ops
 ops.toList.zipIdx.map fun (o,i)=>((o,strictAt E sl ops b i o),raceAt E sl ops b i o)
def calmS:List Dir→Option Nat
 | []=>none
 | .calm s :: _=>some s
 | _ :: l=>calmS l
def calmB (s:Nat) (σ:Slots) (h:Heap):Option (Nat × Nat):=match σ.getD s undef with
 | .pointer (some a)=>if a.block<h.length then some (a.block,h.length) else none
 | _=>none
def eqS:Value→Value→Bool
 | .slice (some p) n c,.slice (some q) n' c'=>p.block == q.block && p.off == q.off && p.spot == q.spot && n == n' && c == c'
 | .slice none n c,.slice none n' c'=>n == n' && c == c'
 | .int k n,.int k' n'=>decide (k=k') && n == n'
 | .bool a,.bool b=>a == b
 | _,_=>false
def eqL:List Value→List Value→Bool
 | [],[]=>true
 | a :: l,b :: m=>eqS a b && eqL l m
 | _,_=>false
def sameO:Option AObj→Option AObj→Bool
 | some (.cells t c g),some (.cells t' c' g')=>t == t' && g == g' && eqL c c'
 | _,_=>false
theorem eqS_eq {a b:Value} (h:eqS a b=true):a=b:=by
 unfold eqS at h
 split at h
 ·rename_i p n c q n' c'
  obtain ⟨pb,po,ps⟩:=p
  obtain ⟨qb,qo,qs⟩:=q
  simp only [Bool.and_eq_true,beq_iff_eq] at h
  obtain ⟨⟨⟨⟨h1,h2⟩,h3⟩,h4⟩,h5⟩:=h
  subst h1;subst h2;subst h3;subst h4;subst h5;rfl
 ·simp only [Bool.and_eq_true,beq_iff_eq] at h
  rw [h.1,h.2]
 ·simp only [Bool.and_eq_true,decide_eq_true_eq,beq_iff_eq] at h
  rw [h.1,h.2]
 ·simp only [beq_iff_eq] at h
  rw [h]
 ·cases h
theorem eqL_eq:∀ {l m:List Value},eqL l m=true→l=m
 | [],[],_=>rfl
 | [],_ :: _,h=>by cases h
 | _ :: _,[],h=>by cases h
 | a :: l,b :: m,h=>by
  unfold eqL at h
  rw [Bool.and_eq_true] at h
  rw [eqS_eq h.1,eqL_eq h.2]
theorem sameO_eq {a b:Option AObj} (h:sameO a b=true):a=b:=by
 unfold sameO at h
 split at h
 ·simp only [Bool.and_eq_true,beq_iff_eq] at h
  rw [h.1.1,h.1.2,eqL_eq h.2]
 ·cases h
def calmL (cm:Nat × Nat) (h:Heap) (op:Op) (ρ:Operand→Value):Bool :=
 match op with
 | .load _ a=>match ρ a with
  | .pointer (some ad)=>ad.block == cm.1 && (h[cm.1]?).any (belowO cm.2)
  | _=>false
 | _=>false
def runQ (E:Env) (C:Callee) (lo:Nat) (cm:Nat × Nat) (ops:Array Oper):List ((Oper × Bool) × Bool)→Slots→Heap→Option (Slots × Heap)
 | [],σ,h=>some (σ,h)
 | ((o,strict),race) :: rest,σ,h =>
  match guardA ops σ o with
  | some true=>(aop E C lo (strict && !calmL cm h o.op (evalA E σ)) o.op (evalA E σ) h).bind fun r=>if race && !sameO h[cm.1]? r.2[cm.1]? then none else runQ E C lo cm ops rest (putA σ o.dst r.1) r.2
  | some false=>runQ E C lo cm ops rest (putA σ o.dst skipV) h
  | none=>none
def stillIn (l:List Dir):Bool:=l.any fun d=>match d with | .still=>true | _=>false
def fixS:List Dir→Option Nat
 | []=>none
 | .fix s :: _=>some s
 | _ :: l=>fixS l
def lowF (x:Option Nat) (σ:Slots) (lo:Nat) (h:Heap):Nat:=match x with
 | none=>lo
 | some s=>match σ.getD s undef with
  | .pointer (some a)=>if lo≤a.block∧a.block<h.length then a.block+1 else lo
  | _=>lo
theorem lowF_ge {x:Option Nat} {σ:Slots} {lo:Nat} {h:Heap}:lo≤lowF x σ lo h:=by
 unfold lowF
 split
 ·exact Nat.le_refl _
 ·split
  ·split <;> omega
  ·exact Nat.le_refl _
theorem lowF_le {x:Option Nat} {σ:Slots} {lo:Nat} {h:Heap} (hlo:lo≤h.length):lowF x σ lo h≤h.length:=by
 unfold lowF
 split
 ·exact hlo
 ·split
  ·split <;> omega
  ·exact hlo
def isNil:Value→Bool
 | .slice none 0 0=>true
 | _=>false
def nilRows (n:Nat):Nat→List Value
 | 0=>[]
 | k+1=>.slice (some ⟨n,0,some 0⟩) 0 0 :: nilRows (n+1) k
def prep1 (P:Program) (lo:Nat) (σ:Slots) (h:Heap):Dir→Option (Slots × Heap)
 | .top s=>some (σ.set s undef,h)
 | .still=>some (σ,h)
 | .fix _=>some (σ,h)
 | .calm _=>some (σ,h)
 | .late s=>match σ.getD s undef with
  | .pointer (some a)=>match h[a.block]? with
   | some (.cells ty c g)=>match c[a.off]? with
    | some (.map (some m))=>match h[m]? with
     | some (.map es ck)=>if lo≤a.block∧lo≤m then some (σ,(h.set m AObj.dead++[AObj.map es ck]).set a.block (AObj.cells ty (c.set a.off (.map (some h.length))) g)) else none
     | _=>none
    | _=>none
   | _=>none
  | _=>none
 | .frz s=>(freezeV P depth lo h (σ.getD s undef)).map fun r=>(σ.set s r.1,r.2)
 | .new s t=>match σ.getD s undef with
  | .slice none 0 0=>(szOf P t).bind fun n=>if n=0 then none else some (σ.set s (.slice (some ⟨h.length,0,some 0⟩) 0 0),h++[.cells t [] n])
  | .func (.yield 1) ⟨[]⟩ ⟨[]⟩=>(szOf P t).bind fun n=>if n=0 then none else some (σ.set s (.slice (some ⟨h.length,0,some 0⟩) 0 0),h++[.cells t [] n])
  | _=>some (σ,h)
 | .news s t=>match σ.getD s undef with
  | .slice (some a) _ _=>match h[a.block]? with
   | some (.cells ty c g)=>(szOf P t).bind fun n=>if n≠0∧lo≤a.block∧c.all isNil=true then
     some (σ,h.set a.block (.cells ty (nilRows h.length c.length) g)++List.replicate c.length (.cells t [] n)) else none
   | _=>none
  | _=>none
 | .newc s d t=>match σ.getD s undef with
  | .pointer (some a)=>match h[a.block]? with
   | some (.cells ty c g)=>(szOf P t).bind fun n=>if n≠0∧lo≤a.block∧(c[a.off+d]?).any isNil=true then
     some (σ,h.set a.block (.cells ty (c.set (a.off+d) (.slice (some ⟨h.length,0,some 0⟩) 0 0)) g)++[.cells t [] n]) else none
   | _=>none
  | _=>none
def prepare (P:Program) (lo:Nat):List Dir→Slots→Heap→Option (Slots × Heap)
 | [],σ,h=>some (σ,h)
 | d :: l,σ,h=>(prep1 P lo σ h d).bind fun r=>prepare P lo l r.1 r.2
def firstReg:Code→Option Nat
 | .region id _ _=>some id
 | .seq a b=>(firstReg a).or (firstReg b)
 | .cond _ a b=>(firstReg a).or (firstReg b)
 | .block _ a=>firstReg a
 | .loop a=>firstReg a
 | .scope a=>firstReg a
 | _=>none
def runReg (E:Env) (f:FuncId) (C:Callee) (lo id:Nat) (ops:Array Oper) (draw:Bool) (r:Slots × Heap):Option (Slots × Heap) :=
 match calmS (E.prep f id),draw with
 | some s,true=>(calmB s r.1 r.2).bind fun cm=>runQ E C lo cm ops (withRace E (stillIn (E.prep f id)) ops) r.1 r.2
 | _,_=>runOps E C (lowF (fixS (E.prep f id)) r.1 lo r.2) ops (withStrict E (stillIn (E.prep f id)) draw ops) r.1 r.2
def forget (l:List Nat) (σ:Slots):Slots:=l.foldl (fun s d=>s.set d undef) σ
abbrev CRes:=Option (Exit × Slots × Heap)
abbrev Body:=Slots→Heap→CRes
def evG (E:Env) (f:FuncId) (C:Callee) (Lp:List Nat × List Nat→Body→Body) (lo:Nat):Code→Body
 | .skip,σ,h=>some (.normal,σ,h)
 | .label _,σ,h=>some (.normal,σ,h)
 | .region id ops draw,σ,h=>(prepare E.P lo (E.prep f id) σ h).bind fun r=>(runReg E f C lo id ops draw r).map fun r=>(.normal,r.1,r.2)
 | .seq a b,σ,h=>(evG E f C Lp lo a σ h).bind fun r=>match r.1 with
  | .normal=>evG E f C Lp lo b r.2.1 r.2.2
  | _=>some r
 | .cond c a b,σ,h=>match evalA E σ c with
  | .bool true=>evG E f C Lp lo a σ h
  | .bool false=>evG E f C Lp lo b σ h
  | _=>none
 | .block id a,σ,h=>(evG E f C Lp lo a σ h).map fun r=>match r.1 with
  | .exit id'=>if id'=id then (.normal,r.2) else r
  | _=>r
 | .loop a,σ,h=>Lp (E.kill f ((firstReg a).getD 0)) (evG E f C Lp lo a) σ h
 | .scope a,σ,h=>(evG E f C Lp lo a σ h).bind fun r=>match r.1 with
  | .goto _=>none
  | _=>some r
 | .exit id,σ,h=>some (.exit id,σ,h)
 | .ret,σ,h=>some (.ret,σ,h)
 | _,_,_=>none
def evLoop:Nat→List Nat × List Nat→Body→Body
 | 0,_,_,_,_=>none
 | m+1,k,body,σ,h=>(body (forget k.1 σ) h).bind fun r=>match r.1 with
  | .normal=>evLoop m k body (forget k.1 r.2.1) (trim h.length (forget k.1 r.2.1) r.2.2)
  | _=>some (r.1,forget k.2 r.2.1,trim h.length (forget k.2 r.2.1) r.2.2)
def retA (E:Env) (fn:Func) (σ:Slots) (h:Heap):Option Value :=
 (fn.results.toList.mapM fun r=>match r with
  | ResultVar.tmp t=>some (σ.getD t undef)
  | ResultVar.cell a t=>aLoad E.P h t (σ.getD a undef)).map fun vs=>match vs with | [v]=>v | _=>.tuple vs.toArray
def evBody (E:Env) (C:Callee) (Lp:List Nat × List Nat→Body→Body) (f:FuncId) (args:List Value) (h:Heap) (lo:Nat):Res :=
 (E.P.funcs[f]?).bind fun fn=>(fn.body).bind fun c =>
  (evG E f C Lp lo c (args++List.replicate (fn.ntmps-args.length) undef) h).bind fun r=>match r.1 with
   | .normal=>(retA E fn r.2.1 r.2.2).map (·,r.2.2)
   | .ret=>(retA E fn r.2.1 r.2.2).map (·,r.2.2)
   | _=>none
def evCall (E:Env) (C:Callee) (Lp:List Nat × List Nat→Body→Body):Callee:=fun f args h lo =>
 match E.orc f with
 | some g=>g args h lo
 | none=>evBody E C Lp f args h lo
def evF (E:Env):Nat→Callee
 | 0=>fun _ _ _ _=>none
 | n+1=>evCall E (evF E n) (evLoop n)
end Go.Proofs.YtplebjehcgcdeaaGreatDoor.Bm
