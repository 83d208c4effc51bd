/-
 Evaluation of resolved code by simp: the equations, and where simp is not to look ahead. Conditions: none.
-/
import Derived.Test.YtplebjehcgcdeaaGreatDoorQU14
import Derived.Laws.Strings
namespace Go.Proofs.YtplebjehcgcdeaaGreatDoor.Bm
open Go Go.RowKit
inductive RRes where
 | tmp (t:Tmp)
 | cell (a:Tmp) (k:TI)
structure RFn where
 n:Nat
 body:RCode
 res:List RRes
def rresOf (P:Program):ResultVar→RRes
 | .tmp t=>.tmp t
 | .cell a t=>.cell a (tiOf P t)
def rfnOf (E:Env) (f:FuncId):Option RFn:=(E.P.funcs[f]?).bind fun fn=>fn.body.map fun c=>⟨fn.ntmps,rcOf E f c,fn.results.toList.map (rresOf E.P)⟩
def slot:Slots→Nat→Value
 | [],_=>undef
 | a :: _,0=>a
 | _ :: l,n+1=>slot l n
def setS:Slots→Nat→Value→Slots
 | [],_,_=>[]
 | _ :: l,0,v=>v :: l
 | a :: l,n+1,v=>a :: setS l n v
theorem slot_eq:∀ (l:Slots) (n:Nat),l.getD n undef=slot l n
 | [],n=>rfl
 | a :: _,0=>rfl
 | a :: l,n+1=>by rw [List.getD_cons_succ,slot,slot_eq l n]
theorem setS_eq:∀ (l:Slots) (n:Nat) (v:Value),l.set n v=setS l n v
 | [],n,v=>rfl
 | a :: _,0,v=>rfl
 | a :: l,n+1,v=>by rw [List.set_cons_succ,setS,setS_eq l n]
def resV (h:Heap) (σ:Slots):RRes→Option Value
 | .tmp t=>some (slot σ t)
 | .cell a k=>loadT k h (slot σ a)
def tupV:List Value→Value
 | [v]=>v
 | vs=>.tuple vs.toArray
def mapO (g:RRes→Option Value):List RRes→Option (List Value)
 | []=>some []
 | r :: l=>(g r).bind fun v=>(mapO g l).map (v :: ·)
def retR (res:List RRes) (σ:Slots) (h:Heap):Res:=(mapO (resV h σ) res).map fun vs=>(tupV vs,h)
def retK (res:List RRes) (r:CRes):Res:=r.bind fun r=>match r.1 with
 | .normal=>retR res r.2.1 r.2.2
 | .ret=>retR res r.2.1 r.2.2
 | _=>none
def padS (args:List Value) (n:Nat):Slots:=args++List.replicate (n-args.length) undef
section
variable {E:Env} {C:Callee} {Lp:List Nat × List Nat→Body→Body} {lo:Nat}
theorem evBody_fn {f:FuncId} {R:RFn} (hR:rfnOf E f=some R) (args:List Value) (h:Heap):evBody E C Lp f args h lo=retK R.res (evR E C Lp lo R.body (padS args R.n) h):=by
 unfold rfnOf at hR
 simp only [Option.bind_eq_some_iff,Option.map_eq_some_iff] at hR
 obtain ⟨fn,h1,c,h2,rfl⟩:=hR
 simp only [evBody,h1,h2,Option.bind_some,code_eq,retK,padS]
 congr 1
 funext r
 have key:∀ σ h,(retA E fn σ h).map (·,h)=retR (fn.results.toList.map (rresOf E.P)) σ h:=by
  intro σ h
  unfold retA retR
  have e:∀ (g:ResultVar→Option Value),(∀ r,g r=resV h σ (rresOf E.P r))→∀ rs:List ResultVar,rs.mapM g=mapO (resV h σ) (rs.map (rresOf E.P)):=by
   intro g hg rs
   induction rs with
   | nil=>rfl
   | cons r rs ih =>
    simp only [List.mapM_cons,List.map_cons,mapO,ih,hg]
    cases resV h σ (rresOf E.P r) with
    | none=>rfl
    | some v=>cases mapO (resV h σ) (rs.map (rresOf E.P)) <;> rfl
  rw [e _ (by
   intro r
   cases r with
   | tmp t=>simp only [resV,rresOf,← slot_eq]
   | cell a t=>simp only [resV,rresOf,← slot_eq,load_T]),Option.map_map]
  congr 1
  funext vs
  match vs with
  | []=>rfl
  | [v]=>rfl
  | _ :: _ :: _=>rfl
 cases r.1 <;> simp only [key]
theorem L_fn {f:FuncId} {R:RFn} (hR:rfnOf E f=some R) (ho:E.orc f=none) (args:List Value) (h:Heap):L E f args h lo=retK R.res (evR E (L E) LL lo R.body (padS args R.n) h):=by
 rw [L_eq]
 unfold evCall
 rw [ho]
 exact evBody_fn hR args h
def nextR (E:Env) (C:Callee) (lo:Nat) (r:Res) (d:Option Tmp) (σ:Slots) (rest:List RI):Option (Slots × Heap):=bndK r fun v h'=>runR E C lo rest (putA σ d v) h'
def gateR (E:Env) (C:Callee) (lo:Nat) (g:Option Bool) (d:Option Tmp) (st:Bool) (op:ROp) (rest:List RI) (σ:Slots) (h:Heap):Option (Slots × Heap) :=
 grdK g (nextR E C lo (ropR E C lo st op (evalA E σ) h) d σ rest) (runR E C lo rest (putA σ d skipV) h)
def preR (E:Env) (C:Callee) (lo:Nat) (r:Option (Slots × Heap)) (l:List RI):CRes:=regK (preK r fun σ h=>runR E C lo l σ h)
def preF (E:Env) (C:Callee) (lo:Nat) (x:Option Nat) (r:Option (Slots × Heap)) (l:List RI):CRes:=regK (preK r fun σ h=>runR E C (lowF x σ lo h) l σ h)
def seqC (E:Env) (C:Callee) (Lp:List Nat × List Nat→Body→Body) (lo:Nat) (r:CRes) (b:RCode):CRes:=seqK r (evR E C Lp lo b)
def cndC (E:Env) (C:Callee) (Lp:List Nat × List Nat→Body→Body) (lo:Nat) (v:Value) (a b:RCode) (σ:Slots) (h:Heap):CRes:=cndK v (evR E C Lp lo a σ h) (evR E C Lp lo b σ h)
theorem runR_nil {σ:Slots} {h:Heap}:runR E C lo [] σ h=some (σ,h):=rfl
theorem runR_cons {d:Option Tmp} {st:Bool} {op:ROp} {rest:List RI} {σ:Slots} {h:Heap}:runR E C lo (⟨d,none,st,op⟩ :: rest) σ h=nextR E C lo (ropR E C lo st op (evalA E σ) h) d σ rest:=rfl
theorem nextR_some {v:Value} {h:Heap} {d:Option Tmp} {σ:Slots} {rest:List RI}:nextR E C lo (some (v,h)) d σ rest=runR E C lo rest (putA σ d v) h:=rfl
theorem gateR_true {d:Option Tmp} {st:Bool} {op:ROp} {rest:List RI} {σ:Slots} {h:Heap}:gateR E C lo (some true) d st op rest σ h=nextR E C lo (ropR E C lo st op (evalA E σ) h) d σ rest:=rfl
theorem gateR_false {d:Option Tmp} {st:Bool} {op:ROp} {rest:List RI} {σ:Slots} {h:Heap}:gateR E C lo (some false) d st op rest σ h=runR E C lo rest (putA σ d skipV) h:=rfl
theorem preR_some {σ:Slots} {h:Heap} {l:List RI}:preR E C lo (some (σ,h)) l=regK (runR E C lo l σ h):=rfl
theorem prepare_nil {σ:Slots} {h:Heap}:prepare E.P lo [] σ h=some (σ,h):=rfl
theorem prepare_cons {d:Dir} {l:List Dir} {σ:Slots} {h:Heap}:prepare E.P lo (d :: l) σ h=(prep1 E.P lo σ h d).bind fun r=>prepare E.P lo l r.1 r.2:=rfl
theorem evR_skip {σ:Slots} {h:Heap}:evR E C Lp lo .skip σ h=some (.normal,σ,h):=rfl
theorem evR_region {d:List Dir} {l:List RI} {σ:Slots} {h:Heap}:evR E C Lp lo (.region d l) σ h=preF E C lo (fixS d) (prepare E.P lo d σ h) l:=rfl
def nextQ (E:Env) (C:Callee) (lo:Nat) (cm:Nat × Nat) (r:Res) (race:Bool) (x:Option AObj) (d:Option Tmp) (σ:Slots) (rest:List (RI × Bool)):Option (Slots × Heap) :=
 bndK r fun v h'=>if race && !sameO x h'[cm.1]? then none else runRQ E C lo cm rest (putA σ d v) h'
def preQ (E:Env) (C:Callee) (lo:Nat) (s:Nat) (r:Option (Slots × Heap)) (l:List (RI × Bool)):CRes:=regK (preK r fun σ h=>(calmB s σ h).bind fun cm=>runRQ E C lo cm l σ h)
theorem evR_regionQ {d:List Dir} {s:Nat} {l:List (RI × Bool)} {σ:Slots} {h:Heap}:evR E C Lp lo (.regionQ d s l) σ h=preQ E C lo s (prepare E.P lo d σ h) l:=rfl
theorem preQ_some {s:Nat} {σ:Slots} {h:Heap} {l:List (RI × Bool)}:preQ E C lo s (some (σ,h)) l=regK ((calmB s σ h).bind fun cm=>runRQ E C lo cm l σ h):=rfl
theorem calmB_ptr {s b off:Nat} {sp:Option Nat} {σ:Slots} {h:Heap} (hv:slot σ s=.pointer (some ⟨b,off,sp⟩)) (hb:b<h.length):calmB s σ h=some (b,h.length):=by
 unfold calmB
 rw [slot_eq,hv]
 simp [hb]
theorem runRQ_nil {cm:Nat × Nat} {σ:Slots} {h:Heap}:runRQ E C lo cm [] σ h=some (σ,h):=rfl
theorem runRQ_cons {cm:Nat × Nat} {d:Option Tmp} {st race:Bool} {op:ROp} {rest:List (RI × Bool)} {σ:Slots} {h:Heap}:runRQ E C lo cm ((⟨d,none,st,op⟩,race) :: rest) σ h=nextQ E C lo cm (ropR E C lo (st && !calmR cm h op (evalA E σ)) op (evalA E σ) h) race h[cm.1]? d σ rest:=rfl
theorem nextQ_free {cm:Nat × Nat} {v:Value} {h:Heap} {x:Option AObj} {d:Option Tmp} {σ:Slots} {rest:List (RI × Bool)}:nextQ E C lo cm (some (v,h)) false x d σ rest=runRQ E C lo cm rest (putA σ d v) h:=rfl
theorem nextQ_race {cm:Nat × Nat} {v:Value} {h:Heap} {x:Option AObj} {d:Option Tmp} {σ:Slots} {rest:List (RI × Bool)} (hs:sameO x h[cm.1]?=true):nextQ E C lo cm (some (v,h)) true x d σ rest=runRQ E C lo cm rest (putA σ d v) h:=by
 unfold nextQ bndK
 simp [hs]
theorem calmR_load {cm:Nat × Nat} {h:Heap} {k:TI} {a:Operand} {ρ:Operand→Value} {b off:Nat} {sp:Option Nat} {x:AObj} (ha:ρ a=.pointer (some ⟨b,off,sp⟩)) (hb:b=cm.1) (hx:h[cm.1]?=some x) (hbe:belowO cm.2 x=true):calmR cm h (.load k a) ρ=true:=by
 unfold calmR
 simp [ha,hb,hx,hbe]
theorem eqS_sl {p:Addr} {n c:Nat}:eqS (.slice (some p) n c) (.slice (some p) n c)=true:=by simp [eqS]
theorem sameO_two {t:TypeId} {p q:Addr} {n c m d g:Nat}:sameO (some (.cells t [.slice (some p) n c,.slice (some q) m d] g)) (some (.cells t [.slice (some p) n c,.slice (some q) m d] g))=true:=by
 simp [sameO,eqL,eqS_sl]
theorem fixS_calm {s:Nat} {l:List Dir}:fixS (.calm s :: l)=fixS l:=rfl
theorem preF_none {r:Option (Slots × Heap)} {l:List RI}:preF E C lo none r l=preR E C lo r l:=rfl
theorem preF_some {s:Nat} {σ:Slots} {h:Heap} {l:List RI}:preF E C lo (some s) (some (σ,h)) l=regK (runR E C (lowF (some s) σ lo h) l σ h):=rfl
theorem fixS_nil:fixS []=none:=rfl
theorem fixS_fix {s:Nat} {l:List Dir}:fixS (.fix s :: l)=some s:=rfl
theorem fixS_frz {s:Nat} {l:List Dir}:fixS (.frz s :: l)=fixS l:=rfl
theorem fixS_new {s:Nat} {t:TypeId} {l:List Dir}:fixS (.new s t :: l)=fixS l:=rfl
theorem fixS_news {s:Nat} {t:TypeId} {l:List Dir}:fixS (.news s t :: l)=fixS l:=rfl
theorem fixS_newc {s d:Nat} {t:TypeId} {l:List Dir}:fixS (.newc s d t :: l)=fixS l:=rfl
theorem fixS_top {s:Nat} {l:List Dir}:fixS (.top s :: l)=fixS l:=rfl
theorem fixS_still {l:List Dir}:fixS (.still :: l)=fixS l:=rfl
theorem fixS_late {s:Nat} {l:List Dir}:fixS (.late s :: l)=fixS l:=rfl
theorem evR_seq {a b:RCode} {σ:Slots} {h:Heap}:evR E C Lp lo (.seq a b) σ h=seqC E C Lp lo (evR E C Lp lo a σ h) b:=rfl
theorem evR_cond {c:Operand} {a b:RCode} {σ:Slots} {h:Heap}:evR E C Lp lo (.cond c a b) σ h=cndC E C Lp lo (evalA E σ c) a b σ h:=rfl
theorem evR_block {i:Nat} {a:RCode} {σ:Slots} {h:Heap}:evR E C Lp lo (.block i a) σ h=blkK i (evR E C Lp lo a σ h):=rfl
theorem evR_loop {k:List Nat × List Nat} {a:RCode} {σ:Slots} {h:Heap}:evR E C Lp lo (.loop k a) σ h=Lp k (evR E C Lp lo a) σ h:=rfl
theorem evR_scope {a:RCode} {σ:Slots} {h:Heap}:evR E C Lp lo (.scope a) σ h=scpK (evR E C Lp lo a σ h):=rfl
theorem evR_exit {i:Nat} {σ:Slots} {h:Heap}:evR E C Lp lo (.exit i) σ h=some (.exit i,σ,h):=rfl
theorem evR_ret {σ:Slots} {h:Heap}:evR E C Lp lo .ret σ h=some (.ret,σ,h):=rfl
theorem seqC_normal {σ:Slots} {h:Heap} {b:RCode}:seqC E C Lp lo (some (.normal,σ,h)) b=evR E C Lp lo b σ h:=rfl
theorem seqC_ret {σ:Slots} {h:Heap} {b:RCode}:seqC E C Lp lo (some (.ret,σ,h)) b=some (.ret,σ,h):=rfl
theorem seqC_exit {i:Nat} {σ:Slots} {h:Heap} {b:RCode}:seqC E C Lp lo (some (.exit i,σ,h)) b=some (.exit i,σ,h):=rfl
theorem cndC_true {a b:RCode} {σ:Slots} {h:Heap}:cndC E C Lp lo (.bool true) a b σ h=evR E C Lp lo a σ h:=rfl
theorem cndC_false {a b:RCode} {σ:Slots} {h:Heap}:cndC E C Lp lo (.bool false) a b σ h=evR E C Lp lo b σ h:=rfl
theorem blkK_normal {i:Nat} {r:Slots × Heap}:blkK i (some (.normal,r))=some (.normal,r):=rfl
theorem blkK_ret {i:Nat} {r:Slots × Heap}:blkK i (some (.ret,r))=some (.ret,r):=rfl
theorem blkK_exit {i j:Nat} {r:Slots × Heap}:blkK i (some (.exit j,r))=if j=i then some (.normal,r) else some (.exit j,r):=by
 unfold blkK;simp only [Option.map_some];split <;> rfl
theorem scpK_normal {r:Slots × Heap}:scpK (some (.normal,r))=some (.normal,r):=rfl
theorem scpK_ret {r:Slots × Heap}:scpK (some (.ret,r))=some (.ret,r):=rfl
theorem scpK_exit {j:Nat} {r:Slots × Heap}:scpK (some (.exit j,r))=some (.exit j,r):=rfl
theorem regK_some {σ:Slots} {h:Heap}:regK (some (σ,h))=some (.normal,σ,h):=rfl
theorem retK_ret {res:List RRes} {σ:Slots} {h:Heap}:retK res (some (.ret,σ,h))=retR res σ h:=rfl
theorem retK_normal {res:List RRes} {σ:Slots} {h:Heap}:retK res (some (.normal,σ,h))=retR res σ h:=rfl
theorem retR_mk {res:List RRes} {σ:Slots} {h:Heap}:retR res σ h=(mapO (resV h σ) res).map fun vs=>(tupV vs,h):=rfl
theorem mapO_nil {g:RRes→Option Value}:mapO g []=some []:=rfl
theorem mapO_cons {g:RRes→Option Value} {r:RRes} {l:List RRes}:mapO g (r :: l)=(g r).bind fun v=>(mapO g l).map (v :: ·):=rfl
theorem resV_tmp {h:Heap} {σ:Slots} {t:Tmp}:resV h σ (.tmp t)=some (slot σ t):=rfl
theorem resV_cell {h:Heap} {σ:Slots} {t:Tmp} {k:TI}:resV h σ (.cell t k)=loadT k h (slot σ t):=rfl
theorem tupV_one {v:Value}:tupV [v]=v:=rfl
theorem tupV_nil:tupV []=.tuple #[]:=rfl
theorem tupV_two {v u:Value} {l:List Value}:tupV (v :: u :: l)=.tuple (v :: u :: l).toArray:=rfl
theorem evalA_tmp {σ:Slots} {t:Tmp}:evalA E σ (.tmp t)=slot σ t:=slot_eq σ t
theorem evalA_const {σ:Slots} {v:Value}:evalA E σ (.const v)=if flat v then v else undef:=rfl
theorem putA_some {σ:Slots} {d:Tmp} {v:Value}:putA σ (some d) v=setS σ d v:=setS_eq σ d v
theorem putA_none {σ:Slots} {v:Value}:putA σ none v=σ:=rfl
theorem slot_zero {a:Value} {l:Slots}:slot (a :: l) 0=a:=rfl
theorem slot_succ {a:Value} {l:Slots} {n:Nat}:slot (a :: l) (n+1)=slot l n:=rfl
theorem setS_zero {a v:Value} {l:Slots}:setS (a :: l) 0 v=v :: l:=rfl
theorem setS_succ {a v:Value} {l:Slots} {n:Nat}:setS (a :: l) (n+1) v=a :: setS l n v:=rfl
def gateV (v:Value) (want:Bool):Option Bool :=
 match v with
 | .bool b=>some (b == want)
 | .chan (some _)=>some false
 | _=>none
theorem guardR_slot {σ:Slots} {t:Tmp} {w:Bool}:guardR (some (some t,w)) σ=gateV (slot σ t) w:=by
 unfold guardR gateV
 simp only [Option.bind_some]
 rw [← slot_eq]
 by_cases h:t<σ.length
 ·rw [List.getElem?_eq_getElem h,show σ.getD t undef=σ[t] by simp [h]]
  cases σ[t] <;> first | rfl | (rename_i x;cases x <;> rfl)
 ·rw [List.getElem?_eq_none (Nat.le_of_not_lt h),show σ.getD t undef=undef by simp [List.getElem?_eq_none (Nat.le_of_not_lt h)]]
  rfl
theorem runR_gate {d:Option Tmp} {t:Tmp} {w st:Bool} {op:ROp} {rest:List RI} {σ:Slots} {h:Heap}:runR E C lo (⟨d,some (some t,w),st,op⟩ :: rest) σ h=gateR E C lo (gateV (slot σ t) w) d st op rest σ h:=by
 simp only [runR,guardR_slot,gateR,nextR]
theorem gateV_bool {b w:Bool}:gateV (.bool b) w=some (b == w):=rfl
theorem gateV_skip {w:Bool}:gateV skipV w=some false:=rfl
def lopK (k1 k2:List Nat) (nx:Body) (n:Nat) (r:CRes):CRes:=r.bind fun r=>match r.1 with
 | .normal=>nx (forget k1 r.2.1) (trim n (forget k1 r.2.1) r.2.2)
 | _=>some (r.1,forget k2 r.2.1,trim n (forget k2 r.2.1) r.2.2)
theorem LL_go (k:List Nat × List Nat) (b:Body) (σ:Slots) (h:Heap):LL k b σ h=lopK k.1 k.2 (LL k b) h.length (b (forget k.1 σ) h):=LL_eq k b σ h
theorem lopK_normal {k1 k2:List Nat} {nx:Body} {n:Nat} {σ:Slots} {h:Heap}:lopK k1 k2 nx n (some (.normal,σ,h))=nx (forget k1 σ) (trim n (forget k1 σ) h):=rfl
theorem lopK_exit {k1 k2:List Nat} {nx:Body} {n i:Nat} {σ:Slots} {h:Heap}:lopK k1 k2 nx n (some (.exit i,σ,h))=some (.exit i,forget k2 σ,trim n (forget k2 σ) h):=rfl
theorem lopK_ret {k1 k2:List Nat} {nx:Body} {n:Nat} {σ:Slots} {h:Heap}:lopK k1 k2 nx n (some (.ret,σ,h))=some (.ret,forget k2 σ,trim n (forget k2 σ) h):=rfl
theorem forget_nil {σ:Slots}:forget [] σ=σ:=rfl
theorem forget_cons {d:Nat} {l:List Nat} {σ:Slots}:forget (d :: l) σ=forget l (setS σ d undef):=by
 rw [← setS_eq];rfl
theorem trim_le {n:Nat} {vs:List Value} {h:Heap} (hl:h.length≤n):trim n vs h=h:=by unfold trim;rw [if_pos hl]
def sets:List (Nat × Value)→Slots→Slots
 | [],σ=>σ
 | (d,v) :: l,σ=>sets l (setS σ d v)
theorem sets_nil {σ:Slots}:sets [] σ=σ:=rfl
theorem sets_cons {d:Nat} {v:Value} {l:List (Nat × Value)} {σ:Slots}:sets ((d,v) :: l) σ=sets l (setS σ d v):=rfl
def fin (σ:Slots) (r:Exit × List (Nat × Value) × Heap):CRes:=some (r.1,sets r.2.1 σ,r.2.2)
theorem fin_mk {σ:Slots} {e:Exit} {u:List (Nat × Value)} {h:Heap}:fin σ (e,u,h)=some (e,sets u σ,h):=rfl
theorem set_comm' (σ:Slots) (d e:Nat):(σ.set d undef).set e undef=(σ.set e undef).set d undef:=by
 by_cases h:d=e
 ·subst h;rfl
 ·exact List.set_comm _ _ h
theorem forget_set (l:List Nat):∀ (σ:Slots) (d:Nat),forget l (σ.set d undef)=(forget l σ).set d undef:=by
 induction l with
 | nil=>intro σ d;rfl
 | cons e l ih =>
  intro σ d
  show forget l ((σ.set d undef).set e undef)=(forget l (σ.set e undef)).set d undef
  rw [set_comm',ih]
theorem forget_twice (l:List Nat):∀ σ:Slots,forget l (forget l σ)=forget l σ:=by
 induction l with
 | nil=>intro σ;rfl
 | cons e l ih =>
  intro σ
  show forget l ((forget l (σ.set e undef)).set e undef)=forget l (σ.set e undef)
  rw [forget_set,ih,← forget_set,List.set_set]
theorem LL_rec {k:List Nat × List Nat} {b:Body} {σ₀:Slots} {h₀:Heap} {α:Type} (a₀:α) (up:α→List (Nat × Value)) (H:α→Heap) (R:α→Exit × List (Nat × Value) × Heap) (I:α→Prop) (ms:α→Nat)
  (hI:I a₀) (e0:sets (up a₀) (forget k.1 σ₀)=forget k.1 σ₀) (e1:H a₀=h₀)
  (step:∀ (nx:Body) a,I a→(∀ a',ms a'<ms a→I a'→nx (sets (up a') (forget k.1 σ₀)) (H a')=fin (forget k.1 σ₀) (R a')) →
   lopK k.1 k.2 nx (H a).length (b (forget k.1 (sets (up a) (forget k.1 σ₀))) (H a))=fin (forget k.1 σ₀) (R a)) :
  LL k b σ₀ h₀=fin (forget k.1 σ₀) (R a₀):=by
 have key:∀ n a,ms a=n→I a→LL k b (sets (up a) (forget k.1 σ₀)) (H a)=fin (forget k.1 σ₀) (R a):=by
  intro n
  induction n using Nat.strongRecOn with
  | _ n ih =>
   intro a ha hi
   rw [LL_go]
   exact step (LL k b) a hi fun a' hlt hi'=>ih (ms a') (by omega) a' rfl hi'
 have:=key _ a₀ rfl hI
 rw [e0,e1] at this
 rw [← this,LL_go,LL_go,forget_twice]
variable {st:Bool} {ρ:Operand→Value} {h:Heap} {σ:Slots}
theorem pureCall_fn {f:FuncId} {R:RFn} (hR:rfnOf E f=some R) (ho:E.orc f=none) (args:List Value):pureCall E.P (L E) f args=(retK R.res (evR E (L E) LL 0 R.body (padS args R.n) [])).bind fun r=>reifyR E.P r.2 r.1:=by
 unfold pureCall
 rw [L_fn hR ho]
theorem rop_mv {x:Operand}:ropR E C lo st (.mv x) ρ h=some (ρ x,h):=rfl
theorem rop_pick {c a b:Operand} {t:Bool} (hc:ρ c=.bool t):ropR E C lo st (.pick c a b) ρ h=some (if t=true then ρ a else ρ b,h):=by
 simp [ropR,hc]
theorem rop_len {l:Ln} {x:Operand}:ropR E C lo st (.len l x) ρ h=(lenT l h (ρ x)).map (·,h):=rfl
theorem rop_load {k:TI} {x:Operand}:ropR E C lo false (.load k x) ρ h=(loadT k h (ρ x)).map (·,h):=rfl
theorem rop_loadS {k:TI} {x:Operand} {v:Value} (hc:ρ x=cptr v):ropR E C lo true (.load k x) ρ h=(loadT k h (cptr v)).map (·,h):=by
 show (if (true && !(isCp (ρ x) || isLow lo h (ρ x)))=true then none else _)=_
 rw [hc];rfl
theorem rop_bin {op:BinOp} {t:TypeId} {x y:Operand}:ropR E C lo st (.bin op t x y) ρ h=(aBin E.P op t (ρ x) (ρ y)).map (·,h):=rfl
theorem rop_binN {op:BinOp} {x y:Operand}:ropR E C lo st (.binN op x y) ρ h=(nilR op (ρ x) (ρ y)).map (·,h):=rfl
theorem nil_neq {t:TypeId} {v:Value}:nilR .neq (.iface t v) .nilIface=some (.bool true):=rfl
theorem nil_eql {t:TypeId} {v:Value}:nilR .eql (.iface t v) .nilIface=some (.bool false):=rfl
theorem nil_neq0:nilR .neq .nilIface .nilIface=some (.bool false):=rfl
theorem nil_eql0:nilR .eql .nilIface .nilIface=some (.bool true):=rfl
theorem rop_un {op:UnOp} {x:Operand}:ropR E C lo st (.un op x) ρ h=(aUn op (ρ x)).map (·,h):=rfl
theorem rop_convert {c:Cv} {x:Operand}:ropR E C lo st (.convert c x) ρ h=(convertH c h (ρ x)).map (·,h):=rfl
theorem cvh_int {k:IntKind} {x:Value}:convertH (.int k) h x=convertT (.int k) x:=rfl
theorem cvh_str {x:Value}:convertH .str h x=convertT .str x:=rfl
theorem cvh_bytes {x:Value}:convertH .bytes h x=bytesH h x:=rfl
theorem rop_indexAddr {ix:Ix} {x i:Operand}:ropR E C lo st (.indexAddr ix x i) ρ h=(indexAddrT ix (ρ x) (ρ i)).map (·,h):=rfl
theorem rop_index {ix:Ix} {x i:Operand}:ropR E C lo st (.index ix x i) ρ h=(indexT ix (ρ x) (ρ i)).map (·,h):=rfl
theorem rop_fieldAddr {k:TI} {fi:Option (Nat × TI)} {x:Operand}:ropR E C lo st (.fieldAddr k fi x) ρ h=(fieldAddrT k fi (ρ x)).map (·,h):=rfl
theorem rop_field {fi:Option (Nat × TI)} {x:Operand}:ropR E C lo st (.field fi x) ρ h=(fieldT fi (ρ x)).map (·,h):=rfl
theorem rop_slice {ix:Ix} {x:Operand} {l u m:Option Operand}:ropR E C lo false (.slice ix x l u m) ρ h=(sliceT ix h (ρ x) (l.map ρ) (u.map ρ) (m.map ρ)).map (·,h):=rfl
theorem rop_sliceS {ix:Ix} {x:Operand} {l u m:Option Operand} (hc:isTr (ρ x)=true):ropR E C lo true (.slice ix x l u m) ρ h=(sliceT ix h (ρ x) (l.map ρ) (u.map ρ) (m.map ρ)).map (·,h):=by
 show (if (true && !isTr (ρ x))=true then none else _)=_
 rw [hc];rfl
theorem rop_store {sz:Option Nat} {a x:Operand}:ropR E C lo false (.store sz a x) ρ h=(storeT sz h lo (ρ x) (ρ a)).map fun h'=>(undef,h'):=rfl
theorem rop_alloc {t:TypeId} {z:Option Value}:ropR E C lo st (.alloc t z) ρ h=z.bind fun z=>if flat z then aBox h t z else none:=rfl
theorem rop_box {t:TypeId} {x:Operand}:ropR E C lo st (.box t x) ρ h=aBox h t (ρ x):=rfl
theorem rop_makeFunc {f:FuncId} {a b:Array Operand}:ropR E C lo st (.makeFunc f a b) ρ h=some (.func (.func f) (a.map ρ) (b.map ρ),h):=rfl
theorem rop_call {f:Operand} {args:List Operand}:ropR E C lo st (.call f args) ρ h=aCall E C lo st (ρ f) (args.map ρ) h:=rfl
theorem rop_appendN {el:Option El} {d x:Operand}:ropR E C lo st (.appendN el d x) ρ h=appendNT el h (ρ d) (ρ x):=rfl
theorem rop_appendS {b:Bool} {el:Option El} {d x:Operand}:ropR E C lo st (.appendS b el d x) ρ h=appendST b el h lo st (ρ d) (ρ x):=rfl
theorem append_str {el:Option El} {d:Value} {s:ByteArray}:appendST true el h lo st d (.string s)=appendT el h lo st d (lst true (bytesV s)):=rfl
theorem rop_append {el:Option El} {d x:Operand}:ropR E C lo st (.append el d x) ρ h=appendT el h lo st (ρ d) (ρ x):=rfl
theorem rop_copy {sz:Option Nat} {d x:Operand}:ropR E C lo false (.copy sz d x) ρ h=copyT sz h lo (ρ d) (ρ x):=rfl
theorem rop_minmax {mx:Bool} {l:List Operand}:ropR E C lo st (.minmax mx l) ρ h=(aMinMax mx (l.map ρ)).map (·,h):=rfl
theorem rop_extract {x:Operand} {i:Nat} {vs:Array Value} (hx:ρ x=.tuple vs):ropR E C lo st (.extract x i) ρ h=(vs[i]?).map (·,h):=by simp [ropR,hx]
theorem rop_build {b:Bl} {parts:Array (Nat × Operand)}:ropR E C lo st (.build b parts) ρ h=(buildT b (parts.map fun (i,x)=>(i,ρ x))).map (·,h):=rfl
theorem rop_buildSlice {el:Option El} {lv:Bool} {n:Nat} {parts:Array (Nat × Operand)}:ropR E C lo st (.buildSlice el lv n parts) ρ h=buildSliceT el lv h n (parts.map fun (i,x)=>(i,ρ x)):=rfl
theorem rop_makeSlice {el:Option El} {l c:Operand}:ropR E C lo st (.makeSlice el l c) ρ h=makeSliceT el h (ρ l) (ρ c):=rfl
theorem rop_nilCheck {x:Operand}:ropR E C lo st (.nilCheck x) ρ h=match ρ x with
  | .pointer (some a)=>some (.pointer (some a),h)
  | .func (.yield 2) a b=>some (.func (.yield 2) a b,h)
  | .func (.func f) fst cap=>some (.func (.func f) fst cap,h)
  | _=>none:=rfl
variable {P:Program} {ik:IntKind} {a b:Int} {t:TypeId} {x:Bool} {l:List Value} {v:Value} {k:TI}
theorem bin_add:aBin P .add t (.int ik a) (.int ik b)=some (.int ik (ik.wrap (a+b))):=by simp [aBin,aIntOp]
theorem bin_sub:aBin P .sub t (.int ik a) (.int ik b)=some (.int ik (ik.wrap (a-b))):=by simp [aBin,aIntOp]
theorem bin_mul:aBin P .mul t (.int ik a) (.int ik b)=some (.int ik (ik.wrap (a * b))):=by simp [aBin,aIntOp]
theorem bin_quo (hb:b≠0):aBin P .quo t (.int ik a) (.int ik b)=some (.int ik (ik.wrap (a.tdiv b))):=by simp [aBin,aIntOp,hb]
theorem bin_rem (hb:b≠0):aBin P .rem t (.int ik a) (.int ik b)=some (.int ik (a.tmod b)):=by simp [aBin,aIntOp,hb]
theorem bin_eql:aBin P .eql t (.int ik a) (.int ik b)=some (.bool (decide (a=b))):=by simp [aBin,aIntOp,BEq.beq]
theorem bin_neq:aBin P .neq t (.int ik a) (.int ik b)=some (.bool (!decide (a=b))):=by simp [aBin,aIntOp,bne,BEq.beq]
theorem bin_lss:aBin P .lss t (.int ik a) (.int ik b)=some (.bool (decide (a<b))):=by simp [aBin,aIntOp]
theorem bin_leq:aBin P .leq t (.int ik a) (.int ik b)=some (.bool (decide (a≤b))):=by simp [aBin,aIntOp]
theorem bin_gtr:aBin P .gtr t (.int ik a) (.int ik b)=some (.bool (decide (b<a))):=by simp [aBin,aIntOp]
theorem bin_geq:aBin P .geq t (.int ik a) (.int ik b)=some (.bool (decide (b≤a))):=by simp [aBin,aIntOp]
theorem un_not {c:Bool}:aUn .not (.bool c)=some (.bool (!c)):=rfl
theorem un_neg:aUn .neg (.int ik a)=some (.int ik (ik.wrap (0-a))):=rfl
theorem len_lst:lenT .sl h (lst x l)=some (.int .i64 l.length):=by unfold lst lenT;cases x <;> rfl
theorem len_slice {p:Option Addr} {n c:Nat}:lenT .sl h (.slice p n c)=some (.int .i64 n):=rfl
theorem len_str {s:ByteArray}:lenT .str h (.string s)=some (.int .i64 s.size):=rfl
theorem load_cptr:loadT k h (cptr v)=if fitsTT k v=true then some v else none:=rfl
theorem fits_ag {n:Nat} {cs:Array Value} (hv:cs.size=n):fitsTT ⟨some true,some n⟩ (.agg cs)=true:=by simp [fitsTT,hv]
theorem index_lst {e:TypeId} {n:Int}:indexAddrT (.sl e k) (lst x l) (.int ik n)=if 0≤n then (l[n.toNat]?).bind fun v=>if (fitsTT k v && k.sz == some (cellsL v).length)=true then some (cptr v) else none else none:=by
 unfold lst indexAddrT;cases x <;> simp
theorem field_agg {fi:Option (Nat × TI)} {cs:Array Value}:fieldT fi (.agg cs)=fi.bind fun fd=>partT fd.2 cs fd.1:=rfl
theorem part_one {sz:Option Nat} {cs:Array Value} {n:Nat}:partT ⟨some false,sz⟩ cs n=cs[n]?:=rfl
theorem part_agg {m:Nat} {cs:Array Value} {n:Nat}:partT ⟨some true,some m⟩ cs n=some (.agg (cs.extract n (n+m))):=rfl
theorem fieldAddr_cptr {fi:Option (Nat × TI)}:fieldAddrT k fi (cptr v)=if fitsTT k v=true then fi.bind fun fd=>match fd.2.sz with
    | some (_+1)=>(fieldT fi v).map cptr
    | _=>none
  else none:=rfl
theorem fieldAddr_ptr {fi:Option (Nat × TI)} {p:Addr}:fieldAddrT k fi (.pointer (some p))=fi.bind fun fd=>match fd.2.sz with
   | some (_+1)=>some (.pointer (some (shift p fd.1)))
   | _=>none:=rfl
theorem load_one {sz:Option Nat} {p:Addr}:loadT ⟨some false,sz⟩ h (.pointer (some p))=(rowOf h p).bind fun c=>c[p.off]?:=by
 simp only [loadT,ofCellsT,rdN]
 cases rowOf h p with
 | none=>rfl
 | some c =>
  simp only [Option.bind_some]
  split
  ·rename_i hl
   simp [List.getElem?_drop]
  ·rename_i hl
   rw [List.getElem?_eq_none (by omega)];rfl
theorem load_agg {n:Nat} {p:Addr}:loadT ⟨some true,some n⟩ h (.pointer (some p))=(rowOf h p).bind fun c=>if p.off+n≤c.length then some (.agg ((c.drop p.off).take n).toArray) else none:=by
 simp only [loadT,ofCellsT,rdN,Option.bind_some]
 cases rowOf h p with
 | none=>rfl
 | some c =>
  simp only [Option.bind_some]
  split <;> rfl
theorem call_func {f:FuncId} {fst cap:Array Value} {args:List Value}:aCall E C lo st (.func (.func f) fst cap) args h=retCall E C lo st f (fst.toList++args++cap.toList) h:=rfl
theorem ret0 {f:FuncId} (hm:E.mode f=0) {args:List Value}:retCall E C lo st f args h=(reifyAll E.P h args).bind fun args=>(pureCall E.P C f args).bind fun r=>if scalar r=true then some (r,h) else none:=by
 unfold retCall;rw [hm];rfl
theorem ret1 {f:FuncId} (hm:E.mode f=1) {args:List Value}:retCall E C lo st f args h=if args.all (settled depth)=true then (pureCall E.P C f args).map (·,h) else none:=by
 unfold retCall;rw [hm];rfl
theorem ret2 {f:FuncId} (hm:E.mode f=2) {args:List Value}:retCall E C lo false f args h=C f args h lo:=by
 unfold retCall;rw [hm];rfl
theorem ret5 {f:FuncId} (hm:E.mode f=5) {args:List Value}:retCall E C lo st f args h=(C f args h h.length).bind fun r=>(freezeV E.P depth h.length r.2 r.1).map fun q=>(q.1,trim h.length [q.1] q.2):=by
 unfold retCall;rw [hm];rfl
theorem ret4 {f:FuncId} (hm:E.mode f=4) {args:List Value}:retCall E C lo false f args h=(frzAll E.P lo args h).bind fun r=>(pureCall E.P C f r.1).map (·,r.2):=by
 unfold retCall;rw [hm];rfl
theorem flat_int {k:IntKind} {n:Int}:flat (.int k n)=true:=rfl
theorem flat_bool {b:Bool}:flat (.bool b)=true:=rfl
theorem flat_string {s:ByteArray}:flat (.string s)=true:=rfl
theorem flat_slice:flat (.slice none 0 0)=true:=rfl
theorem one_string {s:ByteArray}:one (.string s)=true:=rfl
theorem one_int {k:IntKind} {n:Int}:one (.int k n)=true:=rfl
theorem one_bool {b:Bool}:one (.bool b)=true:=rfl
theorem one_lst:one (lst x l)=true:=rfl
theorem one_cptr:one (cptr v)=true:=rfl
theorem one_ptr {p:Option Addr}:one (.pointer p)=true:=rfl
theorem one_slice {p:Option Addr} {n c:Nat}:one (.slice p n c)=true:=rfl
theorem one_func {f:Fn} {p q:Array Value}:one (.func f p q)=true:=rfl
theorem cellsL_string {s:ByteArray}:cellsL (.string s)=[.string s]:=rfl
theorem cellsL_int {k:IntKind} {n:Int}:cellsL (.int k n)=[.int k n]:=rfl
theorem cellsL_bool {b:Bool}:cellsL (.bool b)=[.bool b]:=rfl
theorem cellsL_agg {cs:Array Value}:cellsL (.agg cs)=cs.toList:=rfl
theorem cellsL_lst:cellsL (lst x l)=[lst x l]:=rfl
theorem fits_string {sz:Option Nat} {s:ByteArray}:fitsTT ⟨some false,sz⟩ (.string s)=true:=rfl
theorem fits_int {sz:Option Nat} {k:IntKind} {n:Int}:fitsTT ⟨some false,sz⟩ (.int k n)=true:=rfl
theorem fits_bool {sz:Option Nat} {b:Bool}:fitsTT ⟨some false,sz⟩ (.bool b)=true:=rfl
theorem fits_lst {sz:Option Nat}:fitsTT ⟨some false,sz⟩ (lst x l)=true:=rfl
theorem fits_cptr {sz:Option Nat}:fitsTT ⟨some false,sz⟩ (cptr v)=true:=rfl
theorem fits_func {sz:Option Nat} {f:Fn} {p q:Array Value}:fitsTT ⟨some false,sz⟩ (.func f p q)=true:=rfl
theorem reify_int {P:Program} {n:Nat} {k:IntKind} {z:Int}:reify P (n+1) h (.int k z)=some (.int k z):=rfl
theorem reify_bool {P:Program} {n:Nat} {z:Bool}:reify P (n+1) h (.bool z)=some (.bool z):=rfl
theorem reify_string {P:Program} {n:Nat} {z:ByteArray}:reify P (n+1) h (.string z)=some (.string z):=rfl
theorem reify_lst {P:Program} {n:Nat}:reify P (n+1) h (lst x l)=some (lst x l):=rfl
theorem reify_cptr {P:Program} {n:Nat}:reify P (n+1) h (cptr v)=some (cptr v):=rfl
theorem reify_nil {P:Program} {n:Nat}:reify P (n+1) h (.slice none 0 0)=some (.slice none 0 0):=rfl
theorem reifyR_int {P:Program} {k:IntKind} {z:Int}:reifyR P h (.int k z)=some (.int k z):=rfl
theorem reifyR_bool {P:Program} {z:Bool}:reifyR P h (.bool z)=some (.bool z):=rfl
theorem reifyR_string {P:Program} {z:ByteArray}:reifyR P h (.string z)=some (.string z):=rfl
theorem reifyR_lst {P:Program}:reifyR P h (lst x l)=some (lst x l):=rfl
theorem reifyR_nil {P:Program}:reifyR P h (.slice none 0 0)=some (.slice none 0 0):=rfl
theorem toList_data (s:ByteArray):s.toList=s.data.toList:=ByteArray.toList_eq s
theorem toList_eq {s r:ByteArray}:(s.toList == r.toList)=decide (s=r):=by
 rw [toList_data,toList_data]
 by_cases h:s=r
 ·subst h;simp
 ·rw [decide_eq_false h]
  apply Bool.eq_false_iff.2
  intro e
  have e:=beq_iff_eq.1 e
  apply h
  cases s;cases r
  simp only at e
  congr 1
  exact Array.toList_inj.1 e
theorem bin_eql_str {P:Program} {s r:ByteArray}:aBin P .eql t (.string s) (.string r)=some (.bool (decide (s=r))):=by simp [aBin,aStringOp,toList_eq]
theorem bin_neq_str {P:Program} {s r:ByteArray}:aBin P .neq t (.string s) (.string r)=some (.bool (!decide (s=r))):=by simp [aBin,aStringOp,toList_eq]
theorem reifyAll_nil {P:Program}:reifyAll P h []=some []:=rfl
theorem reifyAll_cons {P:Program} {u:Value} {vs:List Value}:reifyAll P h (u :: vs)=(reify P 8 h u).bind fun a=>(reifyAll P h vs).map (a :: ·):=by
 unfold reifyAll
 rw [List.mapM_cons]
 show (reify P depth h u).bind _=_
 unfold depth
 cases reify P 8 h u with
 | none=>rfl
 | some a=>cases List.mapM (reify P 8 h) vs <;> rfl
def reifyC (P:Program) (n:Nat) (h:Heap) (c:List Value):Option (List Value):=if c.all (settled depth) then some c else c.mapM (reify P n h)
theorem reifyC_set {P:Program} {n:Nat} {c:List Value} (hc:c.all (settled 8)=true):reifyC P n h c=some c:=by unfold reifyC depth;rw [if_pos hc]
theorem reifyC_not {P:Program} {n:Nat} {c:List Value} (hc:c.all (settled 8)=false):reifyC P n h c=c.mapM (reify P n h):=by unfold reifyC depth;rw [if_neg (by rw [hc];decide)]
def mapR (P:Program) (n:Nat) (h:Heap):List Value→Option (List Value)
 | []=>some []
 | u :: l=>(reify P n h u).bind fun a=>(mapR P n h l).map (a :: ·)
theorem mapR_nil {P:Program} {n:Nat}:mapR P n h []=some []:=rfl
theorem mapR_cons {P:Program} {n:Nat} {u:Value} {l:List Value}:mapR P n h (u :: l)=(reify P n h u).bind fun a=>(mapR P n h l).map (a :: ·):=rfl
theorem mapR_eq {P:Program} {n:Nat}:∀ l:List Value,l.mapM (reify P n h)=mapR P n h l
 | []=>rfl
 | u :: l=>by
  rw [List.mapM_cons,mapR_eq l,mapR]
  cases reify P n h u with
  | none=>rfl
  | some a=>cases mapR P n h l <;> rfl
theorem reifyC_map {P:Program} {n:Nat} {c:List Value} (hc:c.all (settled 8)=false):reifyC P n h c=mapR P n h c:=by rw [reifyC_not hc,mapR_eq]
theorem reify_agg {P:Program} {n:Nat} {c:List Value}:reify P (n+1) h (.agg ⟨c⟩)=(reifyC P n h c).map (.agg ⟨·⟩):=rfl
theorem reify_func {P:Program} {n:Nat} {f:FuncId} {c d:List Value}:reify P (n+1) h (.func (.func f) ⟨c⟩ ⟨d⟩)=(reifyC P n h c).bind fun a=>(reifyC P n h d).map fun b=>.func (.func f) ⟨a⟩ ⟨b⟩:=rfl
theorem reifyC_nil {P:Program} {n:Nat}:reifyC P n h []=some []:=rfl
def wrapP (ag:Option Bool) (cs:List Value):Option Value:=match ag,cs with
 | some true,cs=>some (cptr (.agg ⟨cs⟩))
 | some false,[x]=>some (cptr x)
 | _,_=>none
def reifyP (P:Program) (n:Nat) (h:Heap) (o:Option AObj) (p:Addr):Option Value:=match o with
 | some (.cells t c 0)=>if p.off=0∧p.spot=none∧szOf P t=some c.length then (reifyC P n h c).bind (wrapP (aggT P t)) else none
 | _=>none
def reifyS (P:Program) (n:Nat) (h:Heap) (o:Option AObj) (p:Addr) (len:Nat):Option Value:=match o with
 | some (.cells t c g)=>(szOf P t).bind fun s=>if stampOk p.spot g c.length=true∧0<s∧p.off+len * s≤c.length then
   (reifyC P n h ((c.drop p.off).take (len * s))).bind fun cs=>(elemsOf P t len cs).map (lst false) else none
 | _=>none
theorem reify_ptr {P:Program} {n:Nat} {p:Addr}:reify P (n+1) h (.pointer (some p))=reifyP P n h h[p.block]? p:=by
 simp only [reify,reifyP]
 cases h[p.block]? with
 | none=>rfl
 | some o =>
  cases o with
  | cells t c g=>cases g <;> rfl
  | dead=>rfl
  | map=>rfl
theorem reifyP_cells {P:Program} {n:Nat} {p:Addr} {t:TypeId} {c:List Value}:reifyP P n h (some (.cells t c 0)) p=if p.off=0∧p.spot=none∧szOf P t=some c.length then (reifyC P n h c).bind (wrapP (aggT P t)) else none:=rfl
theorem wrapP_agg {cs:List Value}:wrapP (some true) cs=some (cptr (.agg ⟨cs⟩)):=rfl
theorem wrapP_one {u:Value}:wrapP (some false) [u]=some (cptr u):=rfl
theorem reify_slice {P:Program} {n:Nat} {p:Addr} {len cap:Nat}:reify P (n+1) h (.slice (some p) len cap)=if len=0 then some (lst false []) else reifyS P n h h[p.block]? p len:=by
 simp only [reify,reifyS]
 by_cases h0:len=0
 ·simp [h0]
 ·simp only [h0,if_false]
  cases h[p.block]? with
  | none=>rfl
  | some o=>cases o <;> rfl
theorem reifyS_cells {P:Program} {n:Nat} {p:Addr} {len g:Nat} {t:TypeId} {c:List Value}:reifyS P n h (some (.cells t c g)) p len=(szOf P t).bind fun s=>if stampOk p.spot g c.length=true∧0<s∧p.off+len * s≤c.length then
   (reifyC P n h ((c.drop p.off).take (len * s))).bind fun cs=>(elemsOf P t len cs).map (lst false) else none:=rfl
theorem reify_slice0 {P:Program} {n:Nat} {p:Addr} {cap:Nat}:reify P (n+1) h (.slice (some p) 0 cap)=some (lst false []):=rfl
theorem reifyR_slice {P:Program} {p:Option Addr} {n c:Nat}:reifyR P h (.slice p n c)=reify P 8 h (.slice p n c):=rfl
theorem reifyR_agg {P:Program} {c:Array Value}:reifyR P h (.agg c)=reify P 8 h (.agg c):=rfl
theorem reifyR_ptr {P:Program} {p:Option Addr}:reifyR P h (.pointer p)=reify P 8 h (.pointer p):=rfl
theorem reifyR_tup {P:Program} {vs:List Value}:reifyR P h (.tuple ⟨vs⟩)=(reifyAll P h vs).map (.tuple ⟨·⟩):=rfl
theorem set_int {n:Nat} {k:IntKind} {z:Int}:settled (n+1) (.int k z)=true:=rfl
theorem set_bool {n:Nat} {z:Bool}:settled (n+1) (.bool z)=true:=rfl
theorem set_string {n:Nat} {z:ByteArray}:settled (n+1) (.string z)=true:=rfl
theorem set_lst {n:Nat}:settled (n+1) (lst x l)=true:=rfl
theorem set_cptr {n:Nat}:settled (n+1) (cptr v)=true:=rfl
theorem set_nil {n a b:Nat}:settled (n+1) (.slice none a b)=true:=rfl
theorem set_ptr {n:Nat} {p:Addr}:settled (n+1) (.pointer (some p))=false:=rfl
theorem set_slice {n:Nat} {p:Addr} {a b:Nat}:settled (n+1) (.slice (some p) a b)=false:=rfl
theorem set_agg {n:Nat} {c:List Value}:settled (n+1) (.agg ⟨c⟩)=c.all (settled n):=rfl
theorem set_func {n:Nat} {f:FuncId} {c d:List Value}:settled (n+1) (.func (.func f) ⟨c⟩ ⟨d⟩)=(c.all (settled n) && d.all (settled n)):=rfl
theorem elems_one {P:Program} {e len:Nat} {c:List Value} (h1:aggT P e=some false) (h2:szOf P e=some 1):elemsOf P e len c=some c:=by unfold elemsOf;rw [h1,h2];rfl
theorem ret1s {f:FuncId} (hm:E.mode f=1) {args:List Value} (hs:args.all (settled 8)=true):retCall E C lo st f args h=(pureCall E.P C f args).map (·,h):=by
 unfold retCall;rw [hm]
 show (if args.all (settled 8)=true then _ else _)=_
 rw [if_pos hs]
theorem scalar_int {k:IntKind} {z:Int}:scalar (.int k z)=true:=rfl
theorem scalar_bool {z:Bool}:scalar (.bool z)=true:=rfl
theorem scalar_string {z:ByteArray}:scalar (.string z)=true:=rfl
theorem scalar_tup {vs:Array Value}:scalar (.tuple vs)=vs.all flat:=rfl
def rowS (s:Nat) (p:Addr) (n:Nat) (o:Option AObj):Option (List Value × Nat):=match o with
 | some (.cells _ c g)=>if stampOk p.spot g c.length=true∧(g=0∨g=s)∧p.off+n * s≤c.length then some ((c.drop p.off).take (n * s),n) else none
 | _=>none
theorem cells_slice {s:Nat} {p:Addr} {n c:Nat}:sliceCells h s (.slice (some p) n c)=if n=0 then some ([],0) else rowS s p n h[p.block]?:=by
 simp only [sliceCells]
 by_cases h0:n=0
 ·simp [h0]
 ·simp only [h0,if_false]
  cases ho:h[p.block]? with
  | none=>simp [rowS,fitsRow,ho]
  | some o =>
   cases o with
   | cells t c g =>
    simp only [rowS,fitsRow,rdN,rowOf,ho]
    by_cases h1:stampOk p.spot g c.length=true
    ·by_cases h2:g=0∨g=s
     ·have h3:(stampOk p.spot g c.length && (g == 0 || g == s))=true:=by
       simp [h1,h2]
      rw [if_pos h3,if_pos h1,Option.bind_some]
      by_cases h4:p.off+n * s≤c.length
      ·rw [if_pos h4,if_pos ⟨h1,h2,h4⟩];rfl
      ·rw [if_neg h4,if_neg fun e=>h4 e.2.2];rfl
     ·have h3:(stampOk p.spot g c.length && (g == 0 || g == s))=false:=by
       simp [h1]
       exact ⟨fun e=>h2 (.inl e),fun e=>h2 (.inr e)⟩
      simp [h3,h2]
    ·simp [h1]
   | dead=>simp [rowS,fitsRow,ho]
   | map=>simp [rowS,fitsRow,ho]
theorem cells_lst {s:Nat} (hl:l.all (fun v=>(cellsL v).length == s)=true):sliceCells h s (lst x l)=some (l.flatMap cellsL,l.length):=by
 unfold lst sliceCells
 cases x <;> simp [hl]
theorem cells_nil {s:Nat}:sliceCells h s (.slice none 0 0)=some ([],0):=rfl
theorem rowS_cells {s:Nat} {p:Addr} {n g:Nat} {t:TypeId} {c:List Value}:rowS s p n (some (.cells t c g))=if stampOk p.spot g c.length=true∧(g=0∨g=s)∧p.off+n * s≤c.length then some ((c.drop p.off).take (n * s),n) else none:=rfl
def appS (el:El) (h:Heap) (lo:Nat) (st:Bool) (p:Addr) (n c:Nat) (o:Option AObj) (x:Option (List Value × Nat)):Res:=x.bind fun new =>
 if n+new.2≤c then
  if new.2=0 then (if fitsRow h p el.size then some (.slice (some p) n c,h) else none) else
  if st || !fitsRow h p el.size then none else (wrN h lo (shift p (n * el.size)) new.1).map fun h'=>(.slice (some p) (n+new.2) c,h')
 else if (n+new.2) * el.bytes≤2 ^ 47 then
  match o,p.spot with
  | some (.cells _ c 0),none=>if p.off+n * el.size≤c.length then
    some (.slice (some ⟨h.length,0,some ((c.drop p.off).take (n * el.size)++new.1).length⟩) (n+new.2) (n+new.2),h++[.cells el.e ((c.drop p.off).take (n * el.size)++new.1) el.size]) else none
  | some (.cells t row (g+1)),some k=>if st || !decide (lo≤p.block) || k != row.length || g+1 != el.size || p.off != 0 || c * el.size != row.length || t != el.e then none else
    some (.slice (some ⟨p.block,0,some (row.take (n * el.size)++new.1).length⟩) (n+new.2) (n+new.2),h.set p.block (.cells t (row.take (n * el.size)++new.1) (g+1)))
  | _,_=>none
 else none
theorem append_slice {el:El} {p:Addr} {n c:Nat} {u:Value}:appendT (some el) h lo st (.slice (some p) n c) u=appS el h lo st p n c h[p.block]? (sliceCells h el.size u):=by
 unfold appendT appS
 simp only [Option.bind_some]
 rfl
theorem appS_grown {el:El} {b k n c g m:Nat} {t:TypeId} {row new:List Value} (hm:m≠0) (hk:k=row.length) (hn:n=c) (hg:el.size=g+1) (hc:c * (g+1)=row.length) (hlo:lo≤b) (hb:(n+m) * el.bytes≤2 ^ 47) (hte:t=el.e:=by rfl) :
  appS el h lo false ⟨b,0,some k⟩ n c (some (.cells t row (g+1))) (some (new,m))=some (.slice (some ⟨b,0,some (row++new).length⟩) (n+m) (n+m),h.set b (.cells t (row++new) (g+1))):=by
 subst hn;subst hk
 have h1:¬ (n+m≤n):=by omega
 have ht:row.take (n * (g+1))=row:=by rw [hc,List.take_length]
 unfold appS
 simp [h1,hb,hlo,hg,hc,hte]
theorem append_nil {el:El} {u:Value}:appendT (some el) h lo st (.slice none 0 0) u=(sliceCells h el.size u).bind fun new=>if new.2=0 then some (.slice none 0 0,h) else
   if new.2 * el.bytes≤2 ^ 47 then some (.slice (some ⟨h.length,0,some new.1.length⟩) new.2 new.2,h++[.cells el.e new.1 el.size]) else none:=rfl
theorem append_lst {el:El} {u:Value}:appendT (some el) h lo st (lst true l) u=(sliceCells h el.size u).bind fun new=>if new.2=0 then some (lst true l,h) else
   if l.all (fun v=>(cellsL v).length == el.size)=true∧(l.length+new.2) * el.bytes≤2 ^ 47 then
    some (.slice (some ⟨h.length,0,some (l.flatMap cellsL++new.1).length⟩) (l.length+new.2) (l.length+new.2),h++[.cells el.e (l.flatMap cellsL++new.1) el.size]) else none:=by
 unfold lst appendT
 simp
theorem cellsOf_agg {cs:Array Value}:cellsOf (.agg cs)=some cs.toList:=rfl
theorem cellsOf_int {k:IntKind} {n:Int}:cellsOf (.int k n)=some [.int k n]:=rfl
theorem cellsOf_bool {b:Bool}:cellsOf (.bool b)=some [.bool b]:=rfl
theorem cellsOf_string {s:ByteArray}:cellsOf (.string s)=some [.string s]:=rfl
theorem cellsOf_lst:cellsOf (lst x l)=some [lst x l]:=rfl
theorem cellsOf_cptr:cellsOf (cptr v)=some [cptr v]:=rfl
theorem cellsOf_ptr {p:Option Addr}:cellsOf (.pointer p)=some [.pointer p]:=rfl
theorem cellsOf_slice {p:Option Addr} {n c:Nat}:cellsOf (.slice p n c)=some [.slice p n c]:=rfl
theorem cellsOf_func {f:Fn} {p q:Array Value}:cellsOf (.func f p q)=some [.func f p q]:=rfl
theorem store_ptr {n:Nat} {u:Value} {p:Addr}:storeT (some n) h lo u (.pointer (some p))=(cellsOf u).bind fun cs=>if n=cs.length then wrN h lo p cs else none:=by
 simp [storeT]
theorem aBox_eq {u:Value}:aBox h t u=(cellsOf u).map fun cs=>(.pointer (some ⟨h.length,0,none⟩),h++[.cells t cs 0]):=rfl
theorem flat_agg {cs:List Value}:flat (.agg ⟨cs⟩)=cs.all atom:=by
 simp [flat]
theorem atom_int {k:IntKind} {n:Int}:atom (.int k n)=true:=rfl
theorem atom_bool {b:Bool}:atom (.bool b)=true:=rfl
theorem atom_string {s:ByteArray}:atom (.string s)=true:=rfl
theorem atom_nil:atom (.slice none 0 0)=true:=rfl
theorem stamp_none {n:Nat}:stampOk none 0 n=true:=rfl
theorem stamp_some {k g n:Nat}:stampOk (some k) (g+1) n=(k == n):=rfl
theorem trim_cut {n:Nat} {vs:List Value} (h1:¬ h.length≤n) (h2:vs.all (below 8 n)=true) (h3:(h.take n).all (belowO n)=true):trim n vs h=h.take n:=by
 unfold trim depth
 rw [if_neg h1,if_pos (by simp only [h2,h3,Bool.and_self])]
theorem bel_int {d n:Nat} {k:IntKind} {z:Int}:below (d+1) n (.int k z)=true:=rfl
theorem bel_bool {d n:Nat} {z:Bool}:below (d+1) n (.bool z)=true:=rfl
theorem bel_string {d n:Nat} {z:ByteArray}:below (d+1) n (.string z)=true:=rfl
theorem bel_lst {d n:Nat}:below (d+1) n (lst x l)=true:=rfl
theorem bel_cptr {d n:Nat}:below (d+1) n (cptr v)=true:=rfl
theorem bel_ptr {d n:Nat} {p:Addr}:below (d+1) n (.pointer (some p))=decide (p.block<n):=rfl
theorem bel_ptr0 {d n:Nat}:below (d+1) n (.pointer none)=true:=rfl
theorem bel_slice {d n:Nat} {p:Addr} {a b:Nat}:below (d+1) n (.slice (some p) a b)=decide (p.block<n):=rfl
theorem bel_slice0 {d n:Nat} {a b:Nat}:below (d+1) n (.slice none a b)=true:=rfl
theorem bel_agg {d n:Nat} {c:List Value}:below (d+1) n (.agg ⟨c⟩)=c.all (below d n):=rfl
theorem bel_tuple {d n:Nat} {c:List Value}:below (d+1) n (.tuple ⟨c⟩)=c.all (below d n):=rfl
theorem bel_func {d n:Nat} {f:FuncId} {a b:List Value}:below (d+1) n (.func (.func f) ⟨a⟩ ⟨b⟩)=(a.all (below d n) && b.all (below d n)):=rfl
theorem bel_undef {d n:Nat}:below (d+1) n undef=true:=rfl
theorem belO_cells {n:Nat} {t:TypeId} {c:List Value} {g:Nat}:belowO n (.cells t c g)=c.all (below 8 n):=rfl
theorem belO_dead {n:Nat}:belowO n .dead=true:=rfl
theorem okPart_one {u:Value} (hu:one u=true):okPart u=true:=by
 unfold okPart;split <;> first | rfl | cases hu
theorem build_one {el:El} {lv:Bool} {u:Value} (hu:one u=true) (hsz:el.size=1) (hz:el.z.cells.size=1):buildSliceT (some el) lv h 1 ⟨[(0,u)]⟩ =
  if lv=true then some (.slice (some ⟨h.length,0,some 1⟩) 1 1,h++[.cells el.e [u] 1]) else if settled 8 u=true then (elemsT el.k 1 [u]).map fun x=>(lst true x,h) else some (.slice (some ⟨h.length,0,none⟩) 1 1,h++[.cells el.e [u] 0]):=by
 obtain ⟨e,sz,by_,z,k⟩:=el
 simp only at hsz hz
 subst hsz
 have hf:Instr.fill (fun j=>some (j * 1,1)) (if 1 * 1=0 then #[] else zeros z (1 * 1)) [(0,u)]=some #[u]:=by
  have hz1:(zeros z 1).size=1:=by simp [zeros]
  obtain ⟨a,ha⟩:∃ a,zeros z 1=#[a]:=by
   match hm:zeros z 1,hz1 with
   | ⟨[a]⟩,_=>exact ⟨a,rfl⟩
  rw [if_neg (by decide),Nat.mul_one,ha]
  unfold Instr.fill
  have hc:u.cells=#[u]:=by cases u <;> first | rfl | cases hu
  simp [hc,Instr.fill]
 unfold buildSliceT
 simp only [Option.bind_some]
 rw [if_neg (by simp [hz,okPart_one hu]),hf]
 cases lv <;> simp [depth]
theorem build_one' {el:El} {lv:Bool} {u:Value} (hu:one u=true) (hsz:el.size=1) (hz:el.z.cells.size=1):buildSliceT (some el) lv h 1 #[(0,u)] =
  if lv=true then some (.slice (some ⟨h.length,0,some 1⟩) 1 1,h++[.cells el.e [u] 1]) else if settled 8 u=true then (elemsT el.k 1 [u]).map fun x=>(lst true x,h) else some (.slice (some ⟨h.length,0,none⟩) 1 1,h++[.cells el.e [u] 0]):=build_one hu hsz hz
theorem cv_int {k k':IntKind} {z:Int}:convertT (.int k) (.int k' z)=some (.int k (k.wrap z)):=rfl
theorem cv_str {s:ByteArray}:convertT .str (.string s)=some (.string s):=rfl
theorem wrap64 {z:Int} (h1:-9223372036854775808≤z) (h2:z≤9223372036854775807):IntKind.i64.wrap z=z:=by
 unfold IntKind.wrap
 simp [IntKind.bits,IntKind.signed]
 split <;> omega
end
attribute [simp] runR_nil runR_cons runR_gate nextR_some gateR_true gateR_false preR_some prepare_nil prepare_cons evR_skip evR_region preF_none preF_some fixS_nil fixS_fix fixS_frz fixS_new fixS_news fixS_newc fixS_top fixS_still fixS_late fixS_calm evR_regionQ preQ_some runRQ_nil runRQ_cons nextQ_free evR_seq evR_cond evR_block evR_loop evR_scope evR_exit evR_ret seqC_normal seqC_ret seqC_exit cndC_true cndC_false
 blkK_normal blkK_ret blkK_exit scpK_normal scpK_ret scpK_exit regK_some retK_ret retK_normal retR_mk mapO_nil mapO_cons resV_tmp resV_cell tupV_one tupV_nil tupV_two
 evalA_tmp evalA_func evalA_const putA_some putA_none slot_zero slot_succ setS_zero setS_succ gateV_bool gateV_skip lopK_normal lopK_exit lopK_ret forget_nil forget_cons sets_nil sets_cons fin_mk
 rop_mv rop_pick rop_len rop_load rop_loadS rop_bin rop_binN nil_neq nil_eql nil_neq0 nil_eql0 rop_un rop_convert cvh_int cvh_str cvh_bytes rop_indexAddr rop_index rop_fieldAddr rop_field rop_slice rop_sliceS rop_store rop_alloc rop_box rop_makeFunc rop_call rop_append rop_appendN rop_appendS append_str rop_copy rop_minmax rop_extract rop_build rop_buildSlice rop_makeSlice
 bin_add bin_sub bin_mul bin_eql bin_neq bin_lss bin_leq bin_gtr bin_geq bin_eql_str bin_neq_str un_not un_neg len_lst len_slice len_str load_cptr fits_string fits_int fits_bool fits_lst fits_cptr fits_func fits_ag index_lst field_agg part_one part_agg load_one load_agg call_func
 flat_int flat_bool flat_string flat_slice one_string one_int one_bool one_lst one_cptr one_ptr one_slice one_func cellsL_string cellsL_int cellsL_bool cellsL_agg cellsL_lst reify_int reify_bool reify_string reify_lst reify_cptr reify_nil reifyR_int reifyR_bool reifyR_string reifyR_lst reifyR_nil
 reifyAll_nil reifyAll_cons reify_agg reify_func reify_slice0 reifyR_slice reifyR_agg reifyR_ptr reifyR_tup set_int set_bool set_string set_lst set_cptr set_nil set_ptr set_slice set_agg set_func scalar_int scalar_bool scalar_string scalar_tup reifyC_set reifyC_map mapR_nil mapR_cons reifyC_nil reify_ptr reifyP_cells wrapP_agg wrapP_one reify_slice reifyS_cells cells_slice cells_nil rowS_cells append_slice append_nil append_lst
 cellsOf_agg cellsOf_int cellsOf_bool cellsOf_string cellsOf_lst cellsOf_cptr cellsOf_ptr cellsOf_slice cellsOf_func store_ptr aBox_eq flat_agg atom_int atom_bool atom_string atom_nil stamp_none stamp_some shift rowOf wrN splice fieldAddr_ptr fieldAddr_cptr bel_int bel_bool bel_string bel_lst bel_cptr bel_ptr bel_ptr0 bel_slice bel_slice0 bel_agg bel_tuple bel_func bel_undef belO_cells belO_dead cv_int cv_str
end Go.Proofs.YtplebjehcgcdeaaGreatDoor.Bm
