/-
 Chapter 19: the package-level variables that the row lists, and the one that it names. Conditions: they are laid as the row lists them.
-/
import Derived.Test.YtplebjehcgcdeaaGreatDoorQU23
import Derived.Stop.LaidTwo
import Derived.LaidSub
namespace Go.Proofs.YtplebjehcgcdeaaGreatDoor
open Go Go.ChangeShapes Go.WideShapes Go.ChangeAt Go.WideMaps Go.WideElems Go.RowKit
def laid5 : List (String × DataW Unit) := [("math/bits.deBruijn32tab", Rows.laid_math_bits_deBruijn32tab), ("math/bits.deBruijn64tab", Rows.laid_math_bits_deBruijn64tab), ("internal/strconv.uint64pow10", Rows.laid_internal_strconv_uint64pow10), ("strconv.ErrRange", Rows.laid_strconv_ErrRange), ("strconv.ErrSyntax", Rows.laid_strconv_ErrSyntax)]
theorem isIface {o:Option TypeDesc} (h:(match o with | some (.interface _)=>true | _=>false)=true):∃ ms,o=some (.interface ms):=by
 split at h
 ·exact ⟨_,rfl⟩
 ·cases h
theorem uErr:∃ ms,Tryz.prog.underlying 98=some (.interface ms):=isIface (by kernel_rfl)
theorem star : "*" ++ "errors.errorString" = "*errors.errorString" := by decide
set_option maxRecDepth 100000 in
theorem rowErr (u : TypeId) (h : Tryz.prog.typeName? 3 u = some "*errors.errorString") : u = 302 :=
 typeName_ptr_named (nm := "errors.errorString") (by rw [star]; kernel_rfl) (by kernel_rfl) (by decide) u (by rw [star]; exact h)
theorem uPtr:Tryz.prog.underlying 302=some (.pointer 304):=by kernel_rfl
theorem uStr9:Tryz.prog.underlying 9=some .string:=by kernel_rfl
theorem oneField {o:Option TypeDesc} {ty:TypeId} (h:(o.map fun d=>match d with | .struct fs=>fs.toList.map fun f=>(f.type,f.offset) | _=>[])=some [(ty,0)]):∃ f:Field,o=some (.struct #[f])∧f.type=ty∧f.offset=0:=by
 obtain ⟨d,rfl,h2⟩:=Option.map_eq_some_iff.1 h
 split at h2
 ·rename_i fs
  obtain ⟨fs⟩:=fs
  rcases fs with _ | ⟨f,_ | ⟨g,fs⟩⟩
  ·cases h2
  ·simp at h2
   exact ⟨f,rfl,h2.1,h2.2⟩
  ·simp at h2
 ·cases h2
theorem uEs:∃ f:Field,Tryz.prog.underlying 304=some (.struct #[f])∧f.type=9∧f.offset=0:=oneField (by kernel_rfl)
theorem nStr:Tryz.prog.cellsOf 304=1:=by kernel_rfl
theorem nStr9:Tryz.prog.cellsOf 9=1:=by kernel_rfl
theorem g2 : Tryz.prog.globalNamed "strconv.ErrSyntax" = some 2 := by kernel_rfl
theorem g3 : Tryz.prog.globalNamed "strconv.ErrRange" = some 3 := by kernel_rfl
theorem g1 : Tryz.prog.globalNamed "internal/strconv.uint64pow10" = some 1 := by kernel_rfl
theorem t2:(Tryz.prog.globals[2]?).map (·.type)=some 98:=by kernel_rfl
theorem t3:(Tryz.prog.globals[3]?).map (·.type)=some 98:=by kernel_rfl
theorem t1:(Tryz.prog.globals[1]?).map (·.type)=some 284:=by kernel_rfl
theorem errs_laid {W:World} (h:laidMetH Tryz.prog laid5 W):∃ (a0 a1:Addr) (s0 s1:ByteArray),W.cell? ⟨3,0,none⟩=some (.iface 302 (.pointer (some a0)))∧W.cell? ⟨2,0,none⟩=some (.iface 302 (.pointer (some a1))) ∧
  W.cell? a0=some (.string s0)∧s0.data.toList=[118,97,108,117,101,32,111,117,116,32,111,102,32,114,97,110,103,101]∧W.cell? a1=some (.string s1)∧s1.data.toList=[105,110,118,97,108,105,100,32,115,121,110,116,97,120]:=by
 have h := laidMetH.filter (fun x => x.1 == "strconv.ErrRange" || x.1 == "strconv.ErrSyntax") h
 have e : laid5.filter (fun x => x.1 == "strconv.ErrRange" || x.1 == "strconv.ErrSyntax") = [("strconv.ErrRange", Rows.laid_strconv_ErrRange), ("strconv.ErrSyntax", Rows.laid_strconv_ErrSyntax)] := by kernel_rfl
 rw [e,MakeChecks.laidMetH_plain _ _ _ (by kernel_rfl)] at h
 obtain ⟨ms,hi⟩:=uErr
 obtain ⟨f,uf,ft,fo⟩:=uEs
 obtain ⟨a0,a1,s0,s1,c0,c1,t0',t1',v0,v1,k0,l0,_,k1,l1,_⟩:=laid_sentinels2 h g3 t3 g2 t2 hi rowErr uPtr uf ft fo uStr9 nStr nStr9
 exact ⟨a0,a1,s0,s1,by simpa using World.var?_cell g3 v0 0,by simpa using World.var?_cell g2 v1 0,k0,l0,k1,l1⟩
theorem u284:Tryz.prog.underlying 284=some (.array 20 230):=by kernel_rfl
theorem uU64:Tryz.prog.underlying 230=some (.int .u64):=by kernel_rfl
theorem nU64:Tryz.prog.cellsOf 230=1:=by kernel_rfl
theorem n284:Tryz.prog.cellsOf 284=20:=by kernel_rfl
theorem nums_open {P:Program} {W:World} {t e:TypeId} {k:IntKind} {n fuel:Nat} {cs:List Value} {zs:List Int} {p:List MemPlace} (ut:P.underlying t=some (.array n e)) (ue:P.underlying e=some (.int k)) (ne:P.cellsOf e=1) (nt:P.cellsOf t=n)
  (h:DataW.trod (fun _=>()) P W 0 (fun _=>true) false fuel t cs=some (.agg (zs.map fun z=>.lit (.int k z)),p)):cs=zs.map fun z=>.int k z:=by
 obtain ⟨xs,m1,rfl,hx1,hlen,hn3,hel⟩:=DataW.trod_array ut h
 have hx3:=DataW.agg.inj (Prod.mk.inj hx1).1
 have hz:zs.length=n:=by
  have:=congrArg List.length hx3
  simpa [hn3] using this
 refine List.ext_getElem (by rw [hlen,nt,List.length_map,hz]) fun i h1 h2=>?_
 have hi:i<n:=by rw [hlen,nt] at h1;exact h1
 have h3:=hel i hi
 rw [ne,Nat.mul_one,List.getElem?_eq_getElem (show i<xs.length by omega)] at h3
 obtain ⟨z,e1,e2,_⟩:=DataW.trod_int ue h3
 have h4:=congrArg (fun l=>l[i]?) hx3
 simp only [List.getElem?_map,List.getElem?_eq_getElem (show i<xs.length by omega),List.getElem?_eq_getElem (show i<zs.length by omega),Option.map_some,e2,Option.some.injEq,DataW.lit.injEq,Lit.int.injEq,true_and] at h4
 have h5:cs[i]=.int k z:=by
  have:=congrArg (fun l=>l[0]?) e1
  simpa [List.getElem?_take,List.getElem?_drop,List.getElem?_eq_getElem h1] using this
 rw [h5,List.getElem_map,h4]
theorem tab_laid {W:World} (h:laidMetH Tryz.prog laid5 W):∃ ty fz,W.heap[1]?=some (.cells (Lib.pow10Tab.map fun z=>Value.int .u64 z).toArray ty fz):=by
 have h := laidMetH.filter (fun x => x.1 == "internal/strconv.uint64pow10") h
 have e : laid5.filter (fun x => x.1 == "internal/strconv.uint64pow10") = [("internal/strconv.uint64pow10", Rows.laid_internal_strconv_uint64pow10)] := by kernel_rfl
 rw [e,MakeChecks.laidMetH_plain _ _ _ (by kernel_rfl)] at h
 obtain ⟨ps,⟨g',t',cs,f',p',q',hg',ht',hv,hd,_⟩,_⟩:=h
 obtain rfl:=Option.some.inj (g1.symm.trans hg')
 obtain rfl:=Option.some.inj (t1.symm.trans ht')
 have hc:=nums_open u284 uU64 nU64 n284 (zs:=Lib.pow10Tab) (hd.trans (congrArg some (congrArg (·,p') (by kernel_rfl))))
 rw [← hc]
 unfold World.var? at hv
 rw [hg',Option.bind_some] at hv
 split at hv
 ·rename_i ty fz hh
  cases hv
  exact ⟨ty,fz,hh⟩
 ·cases hv
theorem glob_met {W:World} (h:laidMetH Tryz.prog laid5 W):∀ g v,Bm.E.glob g=some v→Bm.VRel ⟨fun _=>none,Bm.cellsW W⟩ (Bm.cptr v) (.pointer (some ⟨g,0,none⟩)):=by
 intro g v hv
 obtain ⟨a0,a1,s0,s1,h3,h2,k0,l0,k1,l1⟩:=errs_laid h
 have key:∀ (g:Nat) (a:Addr) (s:ByteArray) (l:List UInt8),W.cell? ⟨g,0,none⟩=some (.iface 302 (.pointer (some a)))→W.cell? a=some (.string s)→s.data.toList=l →
   Bm.VRel ⟨fun _=>none,Bm.cellsW W⟩ (Bm.cptr (Bm.errV 302 l)) (.pointer (some ⟨g,0,none⟩)):=fun g a s l hg ha hl=>by
  have hs:a.spot=none:=by
   cases hsp:a.spot with
   | none=>rfl
   | some k =>
    unfold World.cell? at ha
    rw [hsp] at ha
    split at ha <;> simp at ha
  have es:s=⟨⟨l⟩⟩:=by obtain ⟨⟨d⟩⟩:=s;exact congrArg (fun x=>ByteArray.mk (Array.mk x)) hl
  subst es
  obtain ⟨ab,ao,asp⟩:=a
  simp only at hs
  subst hs
  refine .tree _ _ _ _ (.cptr _ ⟨g,0,none⟩ (fun _=>.iface 302 (.pointer (some ⟨ab,ao,none⟩))) rfl (fun j u hu=>?_) fun j u hu=>?_)
  ·have hu:([Bm.errV 302 l]:List Value)[j]?=some u:=hu
   match j,hu with
   | 0,hu =>
    cases hu
    exact ⟨rfl,hg⟩
  ·have hu:([Bm.errV 302 l]:List Value)[j]?=some u:=hu
   match j,hu with
   | 0,hu =>
    cases hu
    refine .iface _ _ _ (.cptr _ ⟨ab,ao,none⟩ (fun _=>.string ⟨⟨l⟩⟩) rfl (fun j u hu=>?_) fun j u hu=>?_)
    ·have hu:([Value.string ⟨⟨l⟩⟩]:List Value)[j]?=some u:=hu
     match j,hu with
     | 0,hu =>
      cases hu
      exact ⟨rfl,ha⟩
    ·have hu:([Value.string ⟨⟨l⟩⟩]:List Value)[j]?=some u:=hu
     match j,hu with
     | 0,hu =>
      cases hu
      exact .atom _ rfl
 have hv:Bm.globS 302 g=some v:=hv
 unfold Bm.globS at hv
 split at hv
 ·rename_i e
  subst e
  cases hv
  exact key 2 a1 s1 _ h2 k1 l1
 ·split at hv
  ·rename_i e
   subst e
   cases hv
   exact key 3 a0 s0 _ h3 k0 l0
  ·cases hv
theorem tabs_met {W:World} (h:laidMetH Tryz.prog laid5 W):∀ g cs,(g,cs)∈Bm.E.tabs→∃ ty fz,W.heap[g]?=some (.cells cs ty fz):=by
 intro g cs hg
 have hg:(g,cs)∈Bm.tabsS:=hg
 rw [Bm.tabsS,List.mem_singleton] at hg
 cases hg
 exact tab_laid h
theorem any_met {W:World} (h:W.ShapedOpen Tryz.prog):∀ g∈Bm.E.gany,∃ m,W.cell? ⟨g,0,none⟩=some (.int .i64 m):=by
 intro g hg
 have hg:g∈[0]:=hg
 rw [List.mem_singleton] at hg
 subst hg
 exact cell_of_shapedOpen_int (P:=Tryz.prog) (g:=0) (t:=3) (zero:=#[.int .i64 0]) h (of_decide_eq_true (by kernel_rfl)) (by kernel_rfl) rfl (by kernel_rfl) (by kernel_rfl) (by kernel_rfl)
theorem returns_shaped {H:Type} {enc:TypeId × Value→H} {a:Assume} {C:Checked} {os:Os} {f:FuncId} {fn:Func} {s:ChangeSpec} {conds:List PathCond} {apart fresh handsOn again:Bool} {X:World→Array Value→Prop}
  (hX:∀ (w w':World) (args:Array Value),w.heap=w'.heap→X w args→X w' args)
  (own:ownKnob C.prog.godebug=none) (started:os.Started) (noInit:C.prog.inits.idxOf? f=none) (hfn:C.prog.funcs[f]?=some fn)
  (witness:∃ (w:World) (tape:Tape) (i:Input),w.os=os∧(w.forCall tape i).Shaped C.prog∧i.vars=[]∧Input.okWide C.prog (w.forCall tape i) .any w.heap.size f i ∧
   ((s.pre enc C.prog fn conds apart (w.forCall tape i).memory i.args∧X (w.forCall tape i).memory i.args)∧sizedMet enc C.prog fn (OpenSpec.ofChange s) apart (w.forCall tape i).memory i.args)∧a.holds C.prog (lone (Frame.enter C.prog f i.args .normal) [] (w.forCall tape i)))
  (contract:∀ (W:World) (base:Nat) (args:Array Value) (ds gs:List (DataW H)) (before:List MemPlace),
   (∀ (j:Nat) t v,fn.params[j]?=some t→args[j]?=some v→Value.okWide C.prog W .any base t v) →
   DataW.Whole enc C.prog fn.params.toList s.vars apart W args.toList ds gs before →
   (DataW.weightsEach C.prog (fn.params.toList++s.plain.varTypes C.prog) (ds++gs)).all (·≤reachBytes)=true→X W args→W.ShapedOpen C.prog →
   Calls C.prog f args W fun e W'=>∃ v,e=.returned v∧s.post enc C.prog fn apart fresh handsOn again W args v W') :
  ReturnsInHanded a C os f .any (fun w args=>(s.pre enc C.prog fn conds apart w args∧X w args)∧sizedMet enc C.prog fn (OpenSpec.ofChange s) apart w args) (s.post enc C.prog fn apart fresh handsOn again):=by
 refine returnsInHanded_of_calls own started noInit witness ?_
 intro w tape i _ hsh _ hok hpre hholds
 obtain ⟨_,_,_,fn',hfn',_,_,_,_,hval⟩:=hok
 have e:fn'=fn:=Option.some.inj (hfn'.symm.trans hfn)
 subst e
 obtain ⟨⟨⟨ds,gs,before,hw,hc⟩,hx⟩,hz⟩:=hpre
 have hw':=DataW.Whole.of_heap (w':=w.forCall tape i) (by rfl) hw
 refine (contract (w.forCall tape i) w.heap.size i.args ds gs before hval hw' (hz.weights hw) (hX _ _ _ (by rfl) hx) hsh).mono fun e W' ⟨v,he,hp⟩=>?_
 subst he
 exact ChangeSpec.post_blind hp
theorem own:ownKnob Tryz.prog.godebug=none:=by kernel_rfl
theorem door_met (os:Os) (args:Array Value):laidMetH Tryz.prog laid5 ((World.doorLaid Tryz.prog 400 os).forCall (fun _ _=>0) ⟨#[],args,[]⟩).memory :=
 laidMetH_of_parts3 (fuel:=8) (laidMet_of_run' 8 (by kernel_rfl) (by kernel_rfl)) (by kernel_rfl) (by kernel_rfl)
end Go.Proofs.YtplebjehcgcdeaaGreatDoor
