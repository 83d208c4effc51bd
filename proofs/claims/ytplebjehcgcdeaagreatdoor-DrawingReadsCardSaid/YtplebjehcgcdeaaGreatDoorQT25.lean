/-
 The bases of the lot of the documentation, reckoned by the kernel. Conditions: none.
-/
import Derived.Test.YtplebjehcgcdeaaGreatDoorQT24
import Derived.Stop.LaidTwo
import Derived.LaidSub
import Derived.Test.YtplebjehcgcdeaaGreatDoorQT22
import Derived.Test.YtplebjehcgcdeaaGreatDoorQT15
import Derived.Test.YtplebjehcgcdeaaGreatDoorQT16
namespace Go.Proofs.YtplebjehcgcdeaaGreatDoor
open Go Go.ChangeShapes Go.WideShapes Go.ChangeAt Go.WideMaps Go.WideElems Go.RowKit
def laid5 : List (String × DataW Unit) := [("math/bits.deBruijn32tab", Rows.laid_math_bits_deBruijn32tab), ("math/bits.deBruijn64tab", Rows.laid_math_bits_deBruijn64tab), ("internal/strconv.uint64pow10", Rows.laid_internal_strconv_uint64pow10), ("strconv.ErrRange", Rows.laid_strconv_ErrRange), ("strconv.ErrSyntax", Rows.laid_strconv_ErrSyntax)]
theorem isIface {o:Option TypeDesc} (h:(match o with | some (.interface _)=>true | _=>false)=true):∃ ms,o=some (.interface ms):=by
 split at h
 ·exact ⟨_,rfl⟩
 ·cases h
theorem uErr:∃ ms,Tryz.prog.underlying 98=some (.interface ms):=isIface (by kernel_rfl)
theorem star : "*" ++ "errors.errorString" = "*errors.errorString" := by decide
set_option maxRecDepth 100000 in
theorem rowErr (u : TypeId) (h : Tryz.prog.typeName? 3 u = some "*errors.errorString") : u = 302 :=
 typeName_ptr_named (nm := "errors.errorString") (by rw [star]; kernel_rfl) (by kernel_rfl) (by decide) u (by rw [star]; exact h)
theorem uPtr:Tryz.prog.underlying 302=some (.pointer 304):=by kernel_rfl
theorem uStr9:Tryz.prog.underlying 9=some .string:=by kernel_rfl
theorem oneField {o:Option TypeDesc} {ty:TypeId} (h:(o.map fun d=>match d with | .struct fs=>fs.toList.map fun f=>(f.type,f.offset) | _=>[])=some [(ty,0)]):∃ f:Field,o=some (.struct #[f])∧f.type=ty∧f.offset=0:=by
 obtain ⟨d,rfl,h2⟩:=Option.map_eq_some_iff.1 h
 split at h2
 ·rename_i fs
  obtain ⟨fs⟩:=fs
  rcases fs with _ | ⟨f,_ | ⟨g,fs⟩⟩
  ·cases h2
  ·simp at h2
   exact ⟨f,rfl,h2.1,h2.2⟩
  ·simp at h2
 ·cases h2
theorem uEs:∃ f:Field,Tryz.prog.underlying 304=some (.struct #[f])∧f.type=9∧f.offset=0:=oneField (by kernel_rfl)
theorem nStr:Tryz.prog.cellsOf 304=1:=by kernel_rfl
theorem nStr9:Tryz.prog.cellsOf 9=1:=by kernel_rfl
theorem g2 : Tryz.prog.globalNamed "strconv.ErrSyntax" = some 2 := by kernel_rfl
theorem g3 : Tryz.prog.globalNamed "strconv.ErrRange" = some 3 := by kernel_rfl
theorem g1 : Tryz.prog.globalNamed "internal/strconv.uint64pow10" = some 1 := by kernel_rfl
theorem t2:(Tryz.prog.globals[2]?).map (·.type)=some 98:=by kernel_rfl
theorem t3:(Tryz.prog.globals[3]?).map (·.type)=some 98:=by kernel_rfl
theorem t1:(Tryz.prog.globals[1]?).map (·.type)=some 284:=by kernel_rfl
theorem errs_laid {W:World} (h:laidMetH Tryz.prog laid5 W):∃ (a0 a1:Addr) (s0 s1:ByteArray),W.cell? ⟨3,0,none⟩=some (.iface 302 (.pointer (some a0)))∧W.cell? ⟨2,0,none⟩=some (.iface 302 (.pointer (some a1))) ∧
  W.cell? a0=some (.string s0)∧s0.data.toList=[118,97,108,117,101,32,111,117,116,32,111,102,32,114,97,110,103,101]∧W.cell? a1=some (.string s1)∧s1.data.toList=[105,110,118,97,108,105,100,32,115,121,110,116,97,120]:=by
 have h := laidMetH.filter (fun x => x.1 == "strconv.ErrRange" || x.1 == "strconv.ErrSyntax") h
 have e : laid5.filter (fun x => x.1 == "strconv.ErrRange" || x.1 == "strconv.ErrSyntax") = [("strconv.ErrRange", Rows.laid_strconv_ErrRange), ("strconv.ErrSyntax", Rows.laid_strconv_ErrSyntax)] := by kernel_rfl
 rw [e,MakeChecks.laidMetH_plain _ _ _ (by kernel_rfl)] at h
 obtain ⟨ms,hi⟩:=uErr
 obtain ⟨f,uf,ft,fo⟩:=uEs
 obtain ⟨a0,a1,s0,s1,c0,c1,t0',t1',v0,v1,k0,l0,_,k1,l1,_⟩:=laid_sentinels2 h g3 t3 g2 t2 hi rowErr uPtr uf ft fo uStr9 nStr nStr9
 exact ⟨a0,a1,s0,s1,by simpa using World.var?_cell g3 v0 0,by simpa using World.var?_cell g2 v1 0,k0,l0,k1,l1⟩
theorem u284:Tryz.prog.underlying 284=some (.array 20 230):=by kernel_rfl
theorem uU64:Tryz.prog.underlying 230=some (.int .u64):=by kernel_rfl
theorem nU64:Tryz.prog.cellsOf 230=1:=by kernel_rfl
theorem n284:Tryz.prog.cellsOf 284=20:=by kernel_rfl
theorem nums_open {P:Program} {W:World} {t e:TypeId} {k:IntKind} {n fuel:Nat} {cs:List Value} {zs:List Int} {p:List MemPlace} (ut:P.underlying t=some (.array n e)) (ue:P.underlying e=some (.int k)) (ne:P.cellsOf e=1) (nt:P.cellsOf t=n)
  (h:DataW.trod (fun _=>()) P W 0 (fun _=>true) false fuel t cs=some (.agg (zs.map fun z=>.lit (.int k z)),p)):cs=zs.map fun z=>.int k z:=by
 obtain ⟨xs,m1,rfl,hx1,hlen,hn3,hel⟩:=DataW.trod_array ut h
 have hx3:=DataW.agg.inj (Prod.mk.inj hx1).1
 have hz:zs.length=n:=by
  have:=congrArg List.length hx3
  simpa [hn3] using this
 refine List.ext_getElem (by rw [hlen,nt,List.length_map,hz]) fun i h1 h2=>?_
 have hi:i<n:=by rw [hlen,nt] at h1;exact h1
 have h3:=hel i hi
 rw [ne,Nat.mul_one,List.getElem?_eq_getElem (show i<xs.length by omega)] at h3
 obtain ⟨z,e1,e2,_⟩:=DataW.trod_int ue h3
 have h4:=congrArg (fun l=>l[i]?) hx3
 simp only [List.getElem?_map,List.getElem?_eq_getElem (show i<xs.length by omega),List.getElem?_eq_getElem (show i<zs.length by omega),Option.map_some,e2,Option.some.injEq,DataW.lit.injEq,Lit.int.injEq,true_and] at h4
 have h5:cs[i]=.int k z:=by
  have:=congrArg (fun l=>l[0]?) e1
  simpa [List.getElem?_take,List.getElem?_drop,List.getElem?_eq_getElem h1] using this
 rw [h5,List.getElem_map,h4]
theorem tab_laid {W:World} (h:laidMetH Tryz.prog laid5 W):∃ ty fz,W.heap[1]?=some (.cells (Lib.pow10Tab.map fun z=>Value.int .u64 z).toArray ty fz):=by
 have h := laidMetH.filter (fun x => x.1 == "internal/strconv.uint64pow10") h
 have e : laid5.filter (fun x => x.1 == "internal/strconv.uint64pow10") = [("internal/strconv.uint64pow10", Rows.laid_internal_strconv_uint64pow10)] := by kernel_rfl
 rw [e,MakeChecks.laidMetH_plain _ _ _ (by kernel_rfl)] at h
 obtain ⟨ps,⟨g',t',cs,f',p',q',hg',ht',hv,hd,_⟩,_⟩:=h
 obtain rfl:=Option.some.inj (g1.symm.trans hg')
 obtain rfl:=Option.some.inj (t1.symm.trans ht')
 have hc:=nums_open u284 uU64 nU64 n284 (zs:=Lib.pow10Tab) (hd.trans (congrArg some (congrArg (·,p') (by kernel_rfl))))
 rw [← hc]
 unfold World.var? at hv
 rw [hg',Option.bind_some] at hv
 split at hv
 ·rename_i ty fz hh
  cases hv
  exact ⟨ty,fz,hh⟩
 ·cases hv
theorem glob_met {W:World} (h:laidMetH Tryz.prog laid5 W):∀ g v,Bm.E.glob g=some v→Bm.VRel ⟨fun _=>none,Bm.cellsW W⟩ (Bm.cptr v) (.pointer (some ⟨g,0,none⟩)):=by
 intro g v hv
 obtain ⟨a0,a1,s0,s1,h3,h2,k0,l0,k1,l1⟩:=errs_laid h
 have key:∀ (g:Nat) (a:Addr) (s:ByteArray) (l:List UInt8),W.cell? ⟨g,0,none⟩=some (.iface 302 (.pointer (some a)))→W.cell? a=some (.string s)→s.data.toList=l →
   Bm.VRel ⟨fun _=>none,Bm.cellsW W⟩ (Bm.cptr (Bm.errV 302 l)) (.pointer (some ⟨g,0,none⟩)):=fun g a s l hg ha hl=>by
  have hs:a.spot=none:=by
   cases hsp:a.spot with
   | none=>rfl
   | some k =>
    unfold World.cell? at ha
    rw [hsp] at ha
    split at ha <;> simp at ha
  have es:s=⟨⟨l⟩⟩:=by obtain ⟨⟨d⟩⟩:=s;exact congrArg (fun x=>ByteArray.mk (Array.mk x)) hl
  subst es
  obtain ⟨ab,ao,asp⟩:=a
  simp only at hs
  subst hs
  refine .tree _ _ _ _ (.cptr _ ⟨g,0,none⟩ (fun _=>.iface 302 (.pointer (some ⟨ab,ao,none⟩))) rfl (fun j u hu=>?_) fun j u hu=>?_)
  ·have hu:([Bm.errV 302 l]:List Value)[j]?=some u:=hu
   match j,hu with
   | 0,hu =>
    cases hu
    exact ⟨rfl,hg⟩
  ·have hu:([Bm.errV 302 l]:List Value)[j]?=some u:=hu
   match j,hu with
   | 0,hu =>
    cases hu
    refine .iface _ _ _ (.cptr _ ⟨ab,ao,none⟩ (fun _=>.string ⟨⟨l⟩⟩) rfl (fun j u hu=>?_) fun j u hu=>?_)
    ·have hu:([Value.string ⟨⟨l⟩⟩]:List Value)[j]?=some u:=hu
     match j,hu with
     | 0,hu =>
      cases hu
      exact ⟨rfl,ha⟩
    ·have hu:([Value.string ⟨⟨l⟩⟩]:List Value)[j]?=some u:=hu
     match j,hu with
     | 0,hu =>
      cases hu
      exact .atom _ rfl
 have hv:Bm.globS 302 g=some v:=hv
 unfold Bm.globS at hv
 split at hv
 ·rename_i e
  subst e
  cases hv
  exact key 2 a1 s1 _ h2 k1 l1
 ·split at hv
  ·rename_i e
   subst e
   cases hv
   exact key 3 a0 s0 _ h3 k0 l0
  ·cases hv
theorem tabs_met {W:World} (h:laidMetH Tryz.prog laid5 W):∀ g cs,(g,cs)∈Bm.E.tabs→∃ ty fz,W.heap[g]?=some (.cells cs ty fz):=by
 intro g cs hg
 have hg:(g,cs)∈Bm.tabsS:=hg
 rw [Bm.tabsS,List.mem_singleton] at hg
 cases hg
 exact tab_laid h
theorem any_met {W:World} (h:W.ShapedOpen Tryz.prog):∀ g∈Bm.E.gany,∃ m,W.cell? ⟨g,0,none⟩=some (.int .i64 m):=by
 intro g hg
 have hg:g∈[0]:=hg
 rw [List.mem_singleton] at hg
 subst hg
 exact cell_of_shapedOpen_int (P:=Tryz.prog) (g:=0) (t:=3) (zero:=#[.int .i64 0]) h (of_decide_eq_true (by kernel_rfl)) (by kernel_rfl) rfl (by kernel_rfl) (by kernel_rfl) (by kernel_rfl)
theorem returns_shaped {H:Type} {enc:TypeId × Value→H} {a:Assume} {C:Checked} {os:Os} {f:FuncId} {fn:Func} {s:ChangeSpec} {conds:List PathCond} {apart fresh handsOn again:Bool} {X:World→Array Value→Prop}
  (hX:∀ (w w':World) (args:Array Value),w.heap=w'.heap→X w args→X w' args)
  (own:ownKnob C.prog.godebug=none) (started:os.Started) (noInit:C.prog.inits.idxOf? f=none) (hfn:C.prog.funcs[f]?=some fn)
  (witness:∃ (w:World) (tape:Tape) (i:Input),w.os=os∧(w.forCall tape i).Shaped C.prog∧i.vars=[]∧Input.okWide C.prog (w.forCall tape i) .any w.heap.size f i ∧
   ((s.pre enc C.prog fn conds apart (w.forCall tape i).memory i.args∧X (w.forCall tape i).memory i.args)∧sizedMet enc C.prog fn (OpenSpec.ofChange s) apart (w.forCall tape i).memory i.args)∧a.holds C.prog (lone (Frame.enter C.prog f i.args .normal) [] (w.forCall tape i)))
  (contract:∀ (W:World) (base:Nat) (args:Array Value) (ds gs:List (DataW H)) (before:List MemPlace),
   (∀ (j:Nat) t v,fn.params[j]?=some t→args[j]?=some v→Value.okWide C.prog W .any base t v) →
   DataW.Whole enc C.prog fn.params.toList s.vars apart W args.toList ds gs before →
   (DataW.weightsEach C.prog (fn.params.toList++s.plain.varTypes C.prog) (ds++gs)).all (·≤reachBytes)=true→X W args→W.ShapedOpen C.prog →
   Calls C.prog f args W fun e W'=>∃ v,e=.returned v∧s.post enc C.prog fn apart fresh handsOn again W args v W') :
  ReturnsInHanded a C os f .any (fun w args=>(s.pre enc C.prog fn conds apart w args∧X w args)∧sizedMet enc C.prog fn (OpenSpec.ofChange s) apart w args) (s.post enc C.prog fn apart fresh handsOn again):=by
 refine returnsInHanded_of_calls own started noInit witness ?_
 intro w tape i _ hsh _ hok hpre hholds
 obtain ⟨_,_,_,fn',hfn',_,_,_,_,hval⟩:=hok
 have e:fn'=fn:=Option.some.inj (hfn'.symm.trans hfn)
 subst e
 obtain ⟨⟨⟨ds,gs,before,hw,hc⟩,hx⟩,hz⟩:=hpre
 have hw':=DataW.Whole.of_heap (w':=w.forCall tape i) (by rfl) hw
 refine (contract (w.forCall tape i) w.heap.size i.args ds gs before hval hw' (hz.weights hw) (hX _ _ _ (by rfl) hx) hsh).mono fun e W' ⟨v,he,hp⟩=>?_
 subst he
 exact ChangeSpec.post_blind hp
theorem own:ownKnob Tryz.prog.godebug=none:=by kernel_rfl
theorem door_met (os:Os) (args:Array Value):laidMetH Tryz.prog laid5 ((World.doorLaid Tryz.prog 400 os).forCall (fun _ _=>0) ⟨#[],args,[]⟩).memory :=
 laidMetH_of_parts3 (fuel:=8) (laidMet_of_run' 8 (by kernel_rfl) (by kernel_rfl)) (by kernel_rfl) (by kernel_rfl)
end Go.Proofs.YtplebjehcgcdeaaGreatDoor
namespace Go.Proofs.YtplebjehcgcdeaaGreatDoor.Bm
open Go Go.RowKit
open Dw (Vol Ent Phs Drw)
def Lens (p:Phs):Prop:=p.vols.length≤1000000∧p.gives.length≤1000000
theorem phs_eq (a b:Phs):decide (a=b)=(decide (a.vols=b.vols) && decide (a.gives=b.gives)):=by
 obtain ⟨v,g⟩:=a
 obtain ⟨v',g'⟩:=b
 rw [Bool.eq_iff_iff]
 simp
theorem drw_eq (a b:Drw):decide (a=b)=(decide (a.lot=b.lot) && decide (a.phs=b.phs)):=by
 obtain ⟨v,g⟩:=a
 obtain ⟨v',g'⟩:=b
 rw [Bool.eq_iff_iff]
 simp
end Go.Proofs.YtplebjehcgcdeaaGreatDoor.Bm
namespace Go.Proofs.YtplebjehcgcdeaaGreatDoor.Bm
open Go Go.RowKit
section
variable {E:Env}
theorem ropR_le {C C':Callee} (hC:LeC C C') {lo:Nat} {strict:Bool} {op:ROp} {ρ:Operand→Value} {h:Heap} {r:Value × Heap} (hr:ropR E C lo strict op ρ h=some r):ropR E C' lo strict op ρ h=some r:=by
 cases op with
 | call f args =>
  simp only [ropR] at hr ⊢
  unfold aCall at *
  split at hr
  ·exact retCall_le hC hr
  ·cases hr
 | _=>exact hr
theorem runR_le {C C':Callee} (hC:LeC C C') {lo:Nat}:∀ (l:List RI) (σ:Slots) (h:Heap) (r:Slots × Heap),runR E C lo l σ h=some r→runR E C' lo l σ h=some r
 | [],σ,h,r,hr=>hr
 | o :: l,σ,h,r,hr=>by
  simp only [runR] at hr ⊢
  unfold grdK bndK at *
  split at hr
  ·exact bind_le (fun a ha=>ropR_le hC ha) (fun a b hb=>runR_le hC l _ _ _ hb) hr
  ·exact runR_le hC l _ _ _ hr
  ·cases hr
theorem runRQ_le {C C':Callee} (hC:LeC C C') {lo:Nat} {cm:Nat × Nat}:∀ (l:List (RI × Bool)) (σ:Slots) (h:Heap) (r:Slots × Heap),runRQ E C lo cm l σ h=some r→runRQ E C' lo cm l σ h=some r
 | [],σ,h,r,hr=>hr
 | (o,race) :: l,σ,h,r,hr=>by
  simp only [runRQ] at hr ⊢
  unfold grdK bndK at *
  split at hr
  ·refine bind_le (fun a ha=>ropR_le hC ha) (fun a b hb=>?_) hr
   simp only at hb ⊢
   split at hb
   ·cases hb
   ·rename_i hq
    rw [if_neg hq]
    exact runRQ_le hC l _ _ _ hb
  ·exact runRQ_le hC l _ _ _ hr
  ·cases hr
theorem evR_le {C C':Callee} (hC:LeC C C') {Lp Lp':List Nat × List Nat→Body→Body} (hL:∀ k b b',LeB b b'→LeB (Lp k b) (Lp' k b')) {lo:Nat}:∀ c:RCode,LeB (evR E C Lp lo c) (evR E C' Lp' lo c):=by
 intro c
 induction c with
 | region dirs l =>
  intro σ h r hr
  simp only [evR,regK,preK,Option.map_eq_some_iff] at hr ⊢
  obtain ⟨x,h1,h2⟩:=hr
  exact ⟨x,bind_le (fun a ha=>ha) (fun a b hb=>runR_le hC _ _ _ _ hb) h1,h2⟩
 | regionQ dirs s l =>
  intro σ h r hr
  simp only [evR,regK,preK,Option.map_eq_some_iff] at hr ⊢
  obtain ⟨x,h1,h2⟩:=hr
  exact ⟨x,bind_le (fun a ha=>ha) (fun a b hb=>bind_le (fun x hx=>hx) (fun x y hy=>runRQ_le hC _ _ _ _ hy) hb) h1,h2⟩
 | seq a b iha ihb =>
  intro σ h r hr
  simp only [evR,seqK] at hr ⊢
  refine bind_le (fun x hx=>iha _ _ _ hx) (fun x y hy=>?_) hr
  obtain ⟨e1,σ1,h1⟩:=x
  cases e1 <;> simp only at hy ⊢
  case normal=>exact ihb _ _ _ hy
  all_goals exact hy
 | cond c a b iha ihb =>
  intro σ h r hr
  simp only [evR] at hr ⊢
  unfold cndK at *
  split at hr
  ·exact iha _ _ _ hr
  ·exact ihb _ _ _ hr
  ·cases hr
 | block id a iha =>
  intro σ h r hr
  simp only [evR,blkK,Option.map_eq_some_iff] at hr ⊢
  obtain ⟨x,h1,h2⟩:=hr
  exact ⟨x,iha _ _ _ h1,h2⟩
 | loop k a iha=>intro σ h r hr;exact hL _ _ _ iha _ _ _ hr
 | scope a iha =>
  intro σ h r hr
  simp only [evR,scpK] at hr ⊢
  exact bind_le (fun x hx=>iha _ _ _ hx) (fun x y hy=>hy) hr
 | _=>intro σ h r hr;exact hr
end
end Go.Proofs.YtplebjehcgcdeaaGreatDoor.Bm
namespace Go.Proofs.YtplebjehcgcdeaaGreatDoor.Bm
open Go Go.RowKit
def fgt:Nat→List Nat→Slots→Slots
 | _,[],σ=>σ
 | _,_ :: _,[]=>[]
 | i,d :: k,v :: σ=>if i=d then undef :: fgt (i+1) k σ else v :: fgt (i+1) (d :: k) σ
def ascB:Nat→List Nat→Bool
 | _,[]=>true
 | i,d :: k=>decide (i≤d) && ascB (d+1) k
theorem forget_none:∀ k:List Nat,forget k []=[]
 | []=>rfl
 | d :: k=>by rw [forget_cons];exact forget_none k
theorem forget_succ:∀ (k:List Nat) (a:Value) (σ:Slots),forget (k.map (· + 1)) (a :: σ)=a :: forget k σ
 | [],_,_=>rfl
 | d :: k,a,σ=>by
  rw [List.map_cons,forget_cons,forget_cons]
  exact forget_succ k a (setS σ d undef)
theorem ascB_le:∀ {k:List Nat} {i:Nat},ascB i k=true→∀ d∈k,i≤d
 | [],_,_,_,hd=>absurd hd List.not_mem_nil
 | e :: k,i,h,d,hd=>by
  unfold ascB at h
  rw [Bool.and_eq_true,decide_eq_true_eq] at h
  rcases List.mem_cons.1 hd with rfl | hd
  ·exact h.1
  ·have:=ascB_le h.2 d hd;omega
theorem ascB_mono {k:List Nat} {i j:Nat} (h:ascB i k=true) (hj:∀ d∈k,j≤d):ascB j k=true:=by
 cases k with
 | nil=>rfl
 | cons d k =>
  unfold ascB at h ⊢
  rw [Bool.and_eq_true] at h ⊢
  exact ⟨decide_eq_true (hj d (List.mem_cons_self ..)),h.2⟩
theorem sub_map {k:List Nat} {i:Nat} (h:∀ d∈k,i+1≤d):k.map (· - i)=(k.map (· - (i+1))).map (· + 1):=by
 rw [List.map_map]
 apply List.map_congr_left
 intro d hd
 have:=h d hd
 show d-i=d-(i+1)+1
 omega
theorem fgt_eq:∀ (σ:Slots) (k:List Nat) (i:Nat),ascB i k=true→fgt i k σ=forget (k.map (· - i)) σ
 | σ,[],_,_=>by unfold fgt;rfl
 | [],d :: k,i,_=>by rw [forget_none];rfl
 | v :: σ,d :: k,i,h=>by
  have h':=h
  unfold ascB at h'
  rw [Bool.and_eq_true,decide_eq_true_eq] at h'
  unfold fgt
  by_cases e:i=d
  ·subst e
   rw [if_pos rfl,List.map_cons,forget_cons,Nat.sub_self,fgt_eq σ k (i+1) h'.2,sub_map (ascB_le h'.2)]
   exact (forget_succ _ _ _).symm
  ·have hk:∀ x∈d :: k,i+1≤x:=fun x hx=>by
    rcases List.mem_cons.1 hx with rfl | hx
    ·omega
    ·have:=ascB_le h'.2 x hx;omega
   rw [if_neg e,fgt_eq σ (d :: k) (i+1) (ascB_mono h hk),sub_map hk]
   exact (forget_succ _ _ _).symm
def forgetF (k:List Nat) (σ:Slots):Slots:=if ascB 0 k then fgt 0 k σ else forget k σ
theorem forgetF_eq (k:List Nat) (σ:Slots):forgetF k σ=forget k σ:=by
 unfold forgetF
 split
 ·rw [fgt_eq σ k 0 ‹_›]
  congr 1
  exact List.map_id' k
 ·rfl
def evLoopF:Nat→List Nat × List Nat→Body→Body
 | 0,_,_,_,_=>none
 | m+1,k,body,σ,h=>(body (forgetF k.1 σ) h).bind fun r=>match r.1 with
  | .normal=>evLoopF m k body (forgetF k.1 r.2.1) (trim h.length (forgetF k.1 r.2.1) r.2.2)
  | _=>some (r.1,(forgetF k.2 r.2.1),trim h.length (forgetF k.2 r.2.1) r.2.2)
theorem evLoopF_eq (k:List Nat × List Nat) (body:Body):∀ n,evLoopF n k body=evLoop n k body
 | 0=>rfl
 | m+1=>by
  funext σ h
  unfold evLoopF evLoop
  simp only [forgetF_eq,evLoopF_eq k body m]
  refine congrArg _ (funext fun r=>?_)
  obtain ⟨e,σ',h'⟩:=r
  cases e <;> rfl
def cR (E:Env) (T:List (FuncId × RFn)):Nat→Callee
 | 0=>fun _ _ _ _=>none
 | n+1=>fun f args h lo=>match T.lookup f with
  | some R=>retK R.res (evR E (cR E T n) (evLoopF n) lo R.body (padS args R.n) h)
  | none=>evF E n f args h lo
theorem cR_le {E:Env} {T:List (FuncId × RFn)} (hT:∀ p∈T,rfnOf E p.1=some p.2∧E.orc p.1=none):∀ n,LeC (cR E T n) (L E)
 | 0=>fun _ _ _ _ _ hr=>by cases hr
 | n+1=>fun f args h lo r hr=>by
  unfold cR at hr
  split at hr
  ·rename_i R hl
   have hm:(f,R)∈T:=by
    clear hr hT
    induction T with
    | nil=>cases hl
    | cons p T ih =>
     obtain ⟨a,b⟩:=p
     rw [List.lookup_cons] at hl
     split at hl
     ·rename_i he
      have:=eq_of_beq he
      subst this
      cases hl
      exact List.mem_cons_self ..
     ·exact List.mem_cons_of_mem _ (ih hl)
   obtain ⟨h1,h2⟩:=hT _ hm
   rw [L_fn h1 h2]
   rw [show evLoopF n=evLoop n from funext fun k=>funext fun b=>evLoopF_eq k b n] at hr
   unfold retK at *
   exact bind_le (fun a ha=>evR_le (cR_le hT n) (fun k b b' hb=>evLoop_LL n k hb) _ _ _ _ ha) (fun a b hb=>hb) hr
  ·exact evF_L n _ _ _ _ _ hr
theorem pure_byT {E:Env} {T:List (FuncId × RFn)} (hT:∀ p∈T,rfnOf E p.1=some p.2∧E.orc p.1=none) (n:Nat) {f:FuncId} {args:List Value} {v:Value} (hr:pureCall E.P (cR E T n) f args=some v):pureCall E.P (L E) f args=some v :=
 pureCall_le (cR_le hT n) hr
end Go.Proofs.YtplebjehcgcdeaaGreatDoor.Bm
namespace Go.Proofs.YtplebjehcgcdeaaGreatDoor.Bm
open Go Go.RowKit
open Dw (Vol Ent Phs Drw readF formB)
def exD (z:Int):Drw:=⟨7,[⟨[⟨2,2,4,5,0,6,0,3,false⟩],[]⟩,⟨[⟨2,2,4,5,z,9,1,0,false⟩],[([114,111,97,100,115],50)]⟩]⟩
def exP (z:Int):Value:=lst true [.agg ⟨[lst true (volR.vals [⟨2,2,4,5,0,6,0,3,false⟩]),.slice none 0 0]⟩,.agg ⟨[lst true (volR.vals [⟨2,2,4,5,z,9,1,0,false⟩]),lst true (entR.vals [([114,111,97,100,115],50)])]⟩]
def exV (z:Int):Value:=.agg ⟨[.int .i64 7,exP z]⟩
def exS:List UInt8:=[55,59,50,59,49,59,57,91,50,59,50,59,52,59,53,59,48,59,54,59,48,59,51,59,48,59,93,48,59,49,59,57,91,50,59,50,59,52,59,53,59,54,59,57,59,49,59,48,59,48,59,93,49,59,53,58,114,111,97,100,115,44,53,48,59]
def rV (a b c d:Int):Value:=.agg ⟨[.int .i64 a,.int .i64 b,.int .i64 c,.int .i64 d]⟩
def loV (i:Int) (r:Value):Value:=.agg ⟨[.int .i64 i,.int .i64 0,lst true [r],.slice none 0 0]⟩
def plV (c:Value):Value:=.agg ⟨[.slice none 0 0,.slice none 0 0,.slice none 0 0,.slice none 0 0,c,.slice none 0 0,.slice none 0 0,.int .i64 0]⟩
def capV:Value:=lst true [.agg ⟨[.string ⟨⟨[114,111,97,100,115]⟩⟩,.int .i64 0,.int .i64 0,.slice none 0 0]⟩]
def prbP:Value:=lst true [.agg ⟨[lst true (volR.vals [⟨1,1,4,3,0,6,1,0,false⟩]),.slice none 0 0]⟩]
def prbX:Value:=.agg ⟨[.int .i64 3,prbP]⟩
def rT:List (FuncId × RFn):=[(47,r47),(21,r21),(13,r13),(15,r15),(17,r17),(20,r20),(30,r30),(28,r28),(35,r35),(23,r23),(59,r59),(64,r64),(65,r65),(67,r67),(48,r48),(49,r49),(50,r50),(51,r51),(26,r26),(56,r56),(58,r58),(25,r25),(63,r63),(80,r80),(78,r78),(93,r93),(37,r37),(70,r70),(71,r71),(72,r72),(73,r73),(74,r74),(130,r130),(66,r66),(132,r132),(117,r117),(118,r118),(103,r103),(122,r122),(123,r123),(124,r124),(151,r151),(152,r152),(104,r104),(105,r105),(136,r136),(137,r137),(131,r131),(174,r174),(175,r175),(160,r160),(161,r161),(162,r162),(111,r111),(191,r191),(163,r163),(164,r164),(204,r204),(205,r205),(206,r206),(207,r207),(208,r208),(209,r209),(228,r228),(231,r231),(232,r232)]
theorem rT_ok:∀ p∈rT,rfnOf E p.1=some p.2∧E.orc p.1=none:=by
 unfold rT
 simp only [List.forall_mem_cons]
 exact ⟨⟨F47,rfl⟩,⟨F21,rfl⟩,⟨F13,rfl⟩,⟨F15,rfl⟩,⟨F17,rfl⟩,⟨F20,rfl⟩,⟨F30,rfl⟩,⟨F28,rfl⟩,⟨F35,rfl⟩,⟨F23,rfl⟩,⟨F59,rfl⟩,⟨F64,rfl⟩,⟨F65,rfl⟩,⟨F67,rfl⟩,⟨F48,rfl⟩,⟨F49,rfl⟩,⟨F50,rfl⟩,⟨F51,rfl⟩,⟨F26,rfl⟩,⟨F56,rfl⟩,⟨F58,rfl⟩,⟨F25,rfl⟩,⟨F63,rfl⟩,⟨F80,rfl⟩,⟨F78,rfl⟩,⟨F93,rfl⟩,⟨F37,rfl⟩,⟨F70,rfl⟩,⟨F71,rfl⟩,⟨F72,rfl⟩,⟨F73,rfl⟩,⟨F74,rfl⟩,⟨F130,rfl⟩,⟨F66,rfl⟩,⟨F132,rfl⟩,⟨F117,rfl⟩,⟨F118,rfl⟩,⟨F103,rfl⟩,⟨F122,rfl⟩,⟨F123,rfl⟩,⟨F124,rfl⟩,⟨F151,rfl⟩,⟨F152,rfl⟩,⟨F104,rfl⟩,⟨F105,rfl⟩,⟨F136,rfl⟩,⟨F137,rfl⟩,⟨F131,rfl⟩,⟨F174,rfl⟩,⟨F175,rfl⟩,⟨F160,rfl⟩,⟨F161,rfl⟩,⟨F162,rfl⟩,⟨F111,rfl⟩,⟨F191,rfl⟩,⟨F163,rfl⟩,⟨F164,rfl⟩,⟨F204,rfl⟩,⟨F205,rfl⟩,⟨F206,rfl⟩,⟨F207,rfl⟩,⟨F208,rfl⟩,⟨F209,rfl⟩,⟨F228,rfl⟩,⟨F231,rfl⟩,⟨F232,rfl⟩,fun p hp=>by cases hp⟩
set_option maxRecDepth 100000 in
theorem ex_6:pureCall E.P (L E) 47 [.int .i64 6]=some (exV 6):=pure_byT rT_ok 60 (by kernel_rfl)
set_option maxRecDepth 100000 in
theorem ex_5:pureCall E.P (L E) 47 [.int .i64 5]=some (exV 5):=pure_byT rT_ok 60 (by kernel_rfl)
set_option maxRecDepth 100000 in
theorem ex_form6:pureCall E.P (L E) 21 [exV 6]=some (.bool true):=pure_byT rT_ok 60 (by kernel_rfl)
set_option maxRecDepth 100000 in
theorem ex_form5:pureCall E.P (L E) 21 [exV 5]=some (.bool false):=pure_byT rT_ok 60 (by kernel_rfl)
set_option maxRecDepth 100000 in
theorem ex_bytes:pureCall E.P (L E) 13 [exV 6]=some (.tuple ⟨[.string ⟨⟨exS⟩⟩,.int .i64 0]⟩):=pure_byT rT_ok 60 (by kernel_rfl)
set_option maxRecDepth 100000 in
theorem ex_sol:pureCall E.P (L E) 15 [exV 6,.int .i64 0,.int .i64 2]=some (.tuple ⟨[lst false [.agg ⟨[.int .i64 0,.int .i64 9,lst false [rV 2 2 4 5]]⟩],.int .i64 0]⟩):=pure_byT rT_ok 60 (by kernel_rfl)
set_option maxRecDepth 100000 in
theorem ex_sol2:pureCall E.P (L E) 15 [exV 6,.int .i64 1,.int .i64 9]=some (.tuple ⟨[lst false [.agg ⟨[.int .i64 6,.int .i64 9,lst false [rV 2 2 4 5]]⟩],.int .i64 0]⟩):=pure_byT rT_ok 60 (by kernel_rfl)
set_option maxRecDepth 100000 in
theorem ex_split:pureCall E.P (L E) 17 [exV 6,.int .i64 1]=some (.tuple ⟨[.agg ⟨[.int .i64 7,lst false [.agg ⟨[lst false (volR.vals [⟨2,2,4,5,0,6,0,3,false⟩]),.slice none 0 0]⟩]]⟩,.agg ⟨[.int .i64 7,lst false [.agg ⟨[lst false (volR.vals [⟨2,2,4,5,6,9,1,0,false⟩]),lst false (entR.vals [([114,111,97,100,115],50)])]⟩]]⟩,.bool true]⟩):=pure_byT rT_ok 60 (by kernel_rfl)
set_option maxRecDepth 100000 in
theorem ex_split2:pureCall E.P (L E) 17 [exV 6,.int .i64 2]=some (.tuple ⟨[.agg ⟨[.int .i64 0,.slice none 0 0]⟩,.agg ⟨[.int .i64 0,.slice none 0 0]⟩,.bool false]⟩):=pure_byT rT_ok 60 (by kernel_rfl)
set_option maxRecDepth 100000 in
theorem ex_same:pureCall E.P (L E) 20 [drV (some false) (exD 6),exV 6]=some (.bool true):=pure_byT rT_ok 60 (by kernel_rfl)
set_option maxRecDepth 100000 in
theorem ex_same2:pureCall E.P (L E) 30 [exV 6,exV 6]=some (.bool true):=pure_byT rT_ok 60 (by kernel_rfl)
set_option maxRecDepth 100000 in
theorem ex_rv:pureCall E.P (L E) 28 [.agg ⟨volR.enc ⟨0,0,0,0,0,0,0,0,false⟩⟩]=some (.bool false):=pure_byT rT_ok 60 (by kernel_rfl)
set_option maxRecDepth 100000 in
theorem ex_probe:pureCall E.P (L E) 35 [loV 3 (rV 0 0 5 4),rV 3 1 2 1]=some (.tuple ⟨[prbX,.bool true]⟩):=pure_byT rT_ok 60 (by kernel_rfl)
set_option maxRecDepth 100000 in
theorem ex_same3:pureCall E.P (L E) 20 [prbX,prbX]=some (.bool true):=pure_byT rT_ok 60 (by kernel_rfl)
set_option maxRecDepth 100000 in
theorem ex_right:pureCall E.P (L E) 23 [plV capV,loV 7 (rV 2 2 4 5),exV 6]=some (.bool true):=pure_byT rT_ok 60 (by kernel_rfl)
set_option maxRecDepth 100000 in
theorem ex_right0:pureCall E.P (L E) 23 [plV (.slice none 0 0),loV 7 (rV 2 2 4 5),exV 6]=some (.bool false):=pure_byT rT_ok 60 (by kernel_rfl)
theorem ex_readF:readF formB exS=some (exD 6):=by kernel_rfl
theorem ex_readN:readF formB []=none:=by kernel_rfl
end Go.Proofs.YtplebjehcgcdeaaGreatDoor.Bm
namespace Go.Proofs.YtplebjehcgcdeaaGreatDoor.Bm
open Go Go.RowKit
def rB:List (FuncId × RFn):=[(93,r93),(72,r72),(70,r70),(71,r71),(151,r151),(152,r152),(136,r136),(105,r105),(37,r37),(191,r191),(78,r78),(160,r160),(161,r161),(162,r162),(163,r163),(164,r164),(103,r103),(104,r104),(204,r204),(205,r205),(206,r206),(207,r207),(208,r208),(209,r209),(228,r228),(231,r231),(232,r232)]
theorem rB_ok:∀ p∈rB,rfnOf E p.1=some p.2∧E.orc p.1=none:=by
 unfold rB
 simp only [List.forall_mem_cons]
 exact ⟨⟨F93,rfl⟩,⟨F72,rfl⟩,⟨F70,rfl⟩,⟨F71,rfl⟩,⟨F151,rfl⟩,⟨F152,rfl⟩,⟨F136,rfl⟩,⟨F105,rfl⟩,⟨F37,rfl⟩,⟨F191,rfl⟩,⟨F78,rfl⟩,⟨F160,rfl⟩,⟨F161,rfl⟩,⟨F162,rfl⟩,⟨F163,rfl⟩,⟨F164,rfl⟩,⟨F103,rfl⟩,⟨F104,rfl⟩,⟨F204,rfl⟩,⟨F205,rfl⟩,⟨F206,rfl⟩,⟨F207,rfl⟩,⟨F208,rfl⟩,⟨F209,rfl⟩,⟨F228,rfl⟩,⟨F231,rfl⟩,⟨F232,rfl⟩,fun p hp=>by cases hp⟩
set_option maxRecDepth 100000 in
theorem ex_base0:pureCall E.P (L E) 93 [loV 3 (rV 0 0 5 4),.int .i64 0]=some (.tuple ⟨[rV 0 0 5 4,.bool true]⟩):=pure_byT rB_ok 60 (by kernel_rfl)
set_option maxRecDepth 100000 in
theorem ex_base1:pureCall E.P (L E) 93 [loV 3 (rV 0 0 5 4),.int .i64 1]=some (.tuple ⟨[rV 1 1 4 3,.bool true]⟩):=pure_byT rB_ok 60 (by kernel_rfl)
set_option maxRecDepth 100000 in
theorem ex_base2:pureCall E.P (L E) 93 [loV 3 (rV 0 0 5 4),.int .i64 2]=some (.tuple ⟨[rV 0 0 0 0,.bool false]⟩):=pure_byT rB_ok 60 (by kernel_rfl)
set_option maxRecDepth 100000 in
theorem ex_base3:pureCall E.P (L E) 93 [loV 3 (rV 0 0 5 4),.int .i64 3]=some (.tuple ⟨[rV 0 0 0 0,.bool false]⟩):=pure_byT rB_ok 60 (by kernel_rfl)
set_option maxRecDepth 100000 in
theorem ex_base4:pureCall E.P (L E) 93 [loV 3 (rV 0 0 5 4),.int .i64 4]=some (.tuple ⟨[rV 0 0 0 0,.bool false]⟩):=pure_byT rB_ok 60 (by kernel_rfl)
set_option maxRecDepth 100000 in
theorem ex_base5:pureCall E.P (L E) 93 [loV 3 (rV 0 0 5 4),.int .i64 5]=some (.tuple ⟨[rV 0 0 0 0,.bool false]⟩):=pure_byT rB_ok 60 (by kernel_rfl)
set_option maxRecDepth 100000 in
theorem ex_base6:pureCall E.P (L E) 93 [loV 3 (rV 0 0 5 4),.int .i64 6]=some (.tuple ⟨[rV 0 0 0 0,.bool false]⟩):=pure_byT rB_ok 60 (by kernel_rfl)
set_option maxRecDepth 100000 in
theorem ex_base7:pureCall E.P (L E) 93 [loV 3 (rV 0 0 5 4),.int .i64 7]=some (.tuple ⟨[rV 0 0 0 0,.bool false]⟩):=pure_byT rB_ok 60 (by kernel_rfl)
set_option maxRecDepth 100000 in
theorem ex_base8:pureCall E.P (L E) 93 [loV 3 (rV 0 0 5 4),.int .i64 8]=some (.tuple ⟨[rV 0 0 0 0,.bool false]⟩):=pure_byT rB_ok 60 (by kernel_rfl)
set_option maxRecDepth 100000 in
theorem ex_base9:pureCall E.P (L E) 93 [loV 3 (rV 0 0 5 4),.int .i64 9]=some (.tuple ⟨[rV 0 0 0 0,.bool false]⟩):=pure_byT rB_ok 60 (by kernel_rfl)
set_option maxRecDepth 100000 in
theorem ex_base10:pureCall E.P (L E) 93 [loV 3 (rV 0 0 5 4),.int .i64 10]=some (.tuple ⟨[rV 0 0 0 0,.bool false]⟩):=pure_byT rB_ok 60 (by kernel_rfl)
set_option maxRecDepth 100000 in
theorem ex_base11:pureCall E.P (L E) 93 [loV 3 (rV 0 0 5 4),.int .i64 11]=some (.tuple ⟨[rV 0 0 0 0,.bool false]⟩):=pure_byT rB_ok 60 (by kernel_rfl)
set_option maxRecDepth 100000 in
theorem ex_base12:pureCall E.P (L E) 93 [loV 3 (rV 0 0 5 4),.int .i64 12]=some (.tuple ⟨[rV 0 0 0 0,.bool false]⟩):=pure_byT rB_ok 60 (by kernel_rfl)
set_option maxRecDepth 100000 in
theorem ex_base13:pureCall E.P (L E) 93 [loV 3 (rV 0 0 5 4),.int .i64 13]=some (.tuple ⟨[rV 0 0 0 0,.bool false]⟩):=pure_byT rB_ok 60 (by kernel_rfl)
set_option maxRecDepth 100000 in
theorem ex_base14:pureCall E.P (L E) 93 [loV 3 (rV 0 0 5 4),.int .i64 14]=some (.tuple ⟨[rV 0 0 0 0,.bool false]⟩):=pure_byT rB_ok 60 (by kernel_rfl)
set_option maxRecDepth 100000 in
theorem ex_base15:pureCall E.P (L E) 93 [loV 3 (rV 0 0 5 4),.int .i64 15]=some (.tuple ⟨[rV 0 0 0 0,.bool false]⟩):=pure_byT rB_ok 60 (by kernel_rfl)
set_option maxRecDepth 100000 in
theorem ex_base16:pureCall E.P (L E) 93 [loV 3 (rV 0 0 5 4),.int .i64 16]=some (.tuple ⟨[rV 0 0 0 0,.bool false]⟩):=pure_byT rB_ok 60 (by kernel_rfl)
set_option maxRecDepth 100000 in
theorem ex_base17:pureCall E.P (L E) 93 [loV 3 (rV 0 0 5 4),.int .i64 17]=some (.tuple ⟨[rV 0 0 0 0,.bool false]⟩):=pure_byT rB_ok 60 (by kernel_rfl)
set_option maxRecDepth 100000 in
theorem ex_base18:pureCall E.P (L E) 93 [loV 3 (rV 0 0 5 4),.int .i64 18]=some (.tuple ⟨[rV 0 0 0 0,.bool false]⟩):=pure_byT rB_ok 60 (by kernel_rfl)
set_option maxRecDepth 100000 in
theorem ex_base19:pureCall E.P (L E) 93 [loV 3 (rV 0 0 5 4),.int .i64 19]=some (.tuple ⟨[rV 0 0 0 0,.bool false]⟩):=pure_byT rB_ok 60 (by kernel_rfl)
set_option maxRecDepth 100000 in
theorem ex_base20:pureCall E.P (L E) 93 [loV 3 (rV 0 0 5 4),.int .i64 20]=some (.tuple ⟨[rV 0 0 0 0,.bool false]⟩):=pure_byT rB_ok 60 (by kernel_rfl)
set_option maxRecDepth 100000 in
theorem ex_area0:pureCall E.P (L E) 72 [rV 0 0 5 4]=some (.int .i64 20):=pure_byT rB_ok 60 (by kernel_rfl)
set_option maxRecDepth 100000 in
theorem ex_area1:pureCall E.P (L E) 72 [rV 1 1 4 3]=some (.int .i64 6):=pure_byT rB_ok 60 (by kernel_rfl)
end Go.Proofs.YtplebjehcgcdeaaGreatDoor.Bm
