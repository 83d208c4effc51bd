/-
 Chapter 19: what is known of package-level variables and of other functions; a text as data. Conditions: none.
-/
import Derived.Test.YtplebjehcgcdeaaGreatDoorQU16
import Derived.Test.YtplebjehcgcdeaaGreatDoorChecked
import Derived.Shelf.Sort.Plain
import Derived.Shelf.Slices.In.SortNone
import Derived.Shelf.Slices.CompactI
import Derived.Shelf.SlSortCmp.WholeK
import Derived.Shelf.SlSortCmp.NoneTotal
import Derived.Test.YtplebjehcgcdeaaGreatDoorQU17
import Derived.Shelf.RegionOpenPlain
import Derived.WalkKit
import Derived.Deep.LoopGhost
import Derived.Lib.Walk
import Derived.Lib.SliceRun
import Derived.Test.YtplebjehcgcdeaaGreatDoorQU22
import Derived.Shelf.Small.Strs
import Derived.Shelf.Strings.Search3
import Derived.Shelf.Strconv.Itoa3
import Derived.Shelf.Strconv.AtoiAll
import Derived.Test.YtplebjehcgcdeaaGreatDoorQU13
import Derived.Test.YtplebjehcgcdeaaGreatDoorRows
import Derived.Test.YtplebjehcgcdeaaGreatDoorTie
import Derived.ProofKit
import Derived.LaidMore
import Derived.OpenShut
import Derived.Shelf.Vars
namespace Go.Proofs.YtplebjehcgcdeaaGreatDoor
open Go Go.RowKit Go.Shelf Go.Sort
def lays189_ren:Go.Shelf.Ren:=⟨fun | 189=>172 | 125=>154 | 257=>213 | 128=>200 | 129=>201 | 294=>238 | 295=>239 | 296=>240 | 297=>241 | 298=>242 | 299=>243 | 216=>244 | 300=>245 | 301=>246 | 328=>263 | 329=>223 | 330=>224 | 331=>264 | 332=>265 | 215=>155 | 343=>281 | n=>n,fun | 28=>32 | 3=>3 | 46=>192 | 0=>0 | 51=>228 | 53=>230 | 4=>4 | 183=>221 | 182=>220 | 131=>225 | 5=>5 | 9=>9 | 218=>249 | 222=>253 | 228=>279 | 229=>280 | n=>n,fun | n=>n⟩
theorem lays189:Go.Proofs.Lays.n189 Tryz.prog lays189_ren:={
 mixed:=by kernel_rfl
 f125:=Tryz.func154.trans (congrArg some (by kernel_rfl))
 f128:=Tryz.func200.trans (congrArg some (by kernel_rfl))
 f129:=Tryz.func201.trans (congrArg some (by kernel_rfl))
 f189:=Tryz.func172.trans (congrArg some (by kernel_rfl))
 f215:=Tryz.func155.trans (congrArg some (by kernel_rfl))
 f216:=Tryz.func244.trans (congrArg some (by kernel_rfl))
 f257:=Tryz.func213.trans (congrArg some (by kernel_rfl))
 f294:=Tryz.func238.trans (congrArg some (by kernel_rfl))
 f295:=Tryz.func239.trans (congrArg some (by kernel_rfl))
 f296:=Tryz.func240.trans (congrArg some (by kernel_rfl))
 f297:=Tryz.func241.trans (congrArg some (by kernel_rfl))
 f298:=Tryz.func242.trans (congrArg some (by kernel_rfl))
 f299:=Tryz.func243.trans (congrArg some (by kernel_rfl))
 f300:=Tryz.func245.trans (congrArg some (by kernel_rfl))
 f301:=Tryz.func246.trans (congrArg some (by kernel_rfl))
 f328:=Tryz.func263.trans (congrArg some (by kernel_rfl))
 f329:=Tryz.func223.trans (congrArg some (by kernel_rfl))
 f330:=Tryz.func224.trans (congrArg some (by kernel_rfl))
 f331:=Tryz.func264.trans (congrArg some (by kernel_rfl))
 f332:=Tryz.func265.trans (congrArg some (by kernel_rfl))
 f343:=Tryz.func281.trans (congrArg some (by kernel_rfl))
 t0:=Tryz.underlying0
 a0:=Tryz.isAgg0
 z0:=Tryz.sizeOf0
 v0:=Tryz.zeroValue0
 t3:=Tryz.underlying3
 a3:=Tryz.isAgg3
 z3:=Tryz.sizeOf3
 v3:=Tryz.zeroValue3
 t4:=Tryz.underlying4
 a4:=Tryz.isAgg4
 z4:=Tryz.sizeOf4
 v4:=Tryz.zeroValue4
 t5:=Tryz.underlying5
 a5:=Tryz.isAgg5
 z5:=Tryz.sizeOf5
 v5:=Tryz.zeroValue5
 t9:=Tryz.underlying9
 a9:=Tryz.isAgg9
 z9:=Tryz.sizeOf9
 v9:=Tryz.zeroValue9
 t28:=Tryz.underlying32
 a28:=Tryz.isAgg32
 z28:=Tryz.sizeOf32
 v28:=Tryz.zeroValue32
 t46:=Tryz.underlying192
 a46:=Tryz.isAgg192
 z46:=Tryz.sizeOf192
 v46:=Tryz.zeroValue192
 t51:=Tryz.underlying228
 a51:=Tryz.isAgg228
 z51:=Tryz.sizeOf228
 v51:=Tryz.zeroValue228
 t53:=Tryz.underlying230
 a53:=Tryz.isAgg230
 z53:=Tryz.sizeOf230
 v53:=Tryz.zeroValue230
 t131:=Tryz.underlying225
 a131:=Tryz.isAgg225
 z131:=Tryz.sizeOf225
 v131:=Tryz.zeroValue225
 t182:=Tryz.underlying220
 a182:=Tryz.isAgg220
 z182:=Tryz.sizeOf220
 v182:=Tryz.zeroValue220
 t183:=Tryz.underlying221
 a183:=Tryz.isAgg221
 z183:=Tryz.sizeOf221
 v183:=Tryz.zeroValue221
 t218:=Tryz.underlying249
 a218:=Tryz.isAgg249
 z218:=Tryz.sizeOf249
 v218:=Tryz.zeroValue249
 t222:=Tryz.underlying253
 a222:=Tryz.isAgg253
 z222:=Tryz.sizeOf253
 v222:=Tryz.zeroValue253
 t228:=Tryz.underlying279
 a228:=Tryz.isAgg279
 z228:=Tryz.sizeOf279
 v228:=Tryz.zeroValue279
 t229:=Tryz.underlying280
 a229:=Tryz.isAgg280
 z229:=Tryz.sizeOf280
 v229:=Tryz.zeroValue280 }
theorem conSort:Bm.SortCon Tryz.prog 172 Bm.sortI none where
 row blk off cap zs w hH hblk hsz _:=by
  rw [← Bm.sortI_eq]
  exact Any.slices_Sort_int lays189 blk off cap zs w hH hblk hsz
 none p cap w:=Any.slices_Sort_int_none lays189 p cap w
 dfd:=⟨_,Tryz.func172,rfl⟩
 len:=Bm.sortI_len
 cut:=fun _ h=>by cases h
end Go.Proofs.YtplebjehcgcdeaaGreatDoor
namespace Go.Proofs.YtplebjehcgcdeaaGreatDoor
open Go Go.RowKit Go.Shelf Go.Sort
def laysNm220_ren:Go.Shelf.Ren:=⟨fun | 20=>173 | n=>n,fun | 22=>32 | 3=>3 | 4=>4 | 0=>0 | n=>n,fun | n=>n⟩
theorem laysNm220:Go.Proofs.Lays2.n20 Tryz.prog laysNm220_ren:={
 mixed:=by kernel_rfl
 f20:=Tryz.func173.trans (congrArg some (by kernel_rfl))
 t0:=Tryz.underlying0
 a0:=Tryz.isAgg0
 z0:=Tryz.sizeOf0
 v0:=Tryz.zeroValue0
 t3:=Tryz.underlying3
 a3:=Tryz.isAgg3
 z3:=Tryz.sizeOf3
 v3:=Tryz.zeroValue3
 t4:=Tryz.underlying4
 a4:=Tryz.isAgg4
 z4:=Tryz.sizeOf4
 v4:=Tryz.zeroValue4
 t22:=Tryz.underlying32
 a22:=Tryz.isAgg32
 z22:=Tryz.sizeOf32
 v22:=Tryz.zeroValue32
 i3:=by kernel_rfl }
theorem conComp:Bm.SortCon Tryz.prog 173 Bm.compF (some Bm.compN) where
 row blk off cap zs w hH hblk hsz hc:=(Any.slices_Compact_int laysNm220 blk off cap zs w hH (by omega) hc).mono fun e w' h=>by
  rw [Bm.compact_eq] at h
  exact ⟨h.1,h.2.imp fun n k=>⟨#[],by rw [k];exact (grow_empty _).symm⟩⟩
 none p cap w:=Any.slices_Compact_int_empty laysNm220 p cap w
 dfd:=⟨_,Tryz.func173,rfl⟩
 len:=Bm.compF_len
 cut:=fun m h zs=>by cases h;exact Bm.compG_len zs none
end Go.Proofs.YtplebjehcgcdeaaGreatDoor
namespace Go.Proofs.YtplebjehcgcdeaaGreatDoor
open Go Go.RowKit Go.Shelf Go.Sort
theorem flatK_flat (d:Array (Int × Int)):flatK spanV 2 d=(d.toList.flatMap spanV).toArray:=by
 obtain ⟨l⟩:=d
 refine ext_get! (by rw [size_flatK];show l.length * 2=(l.flatMap spanV).length;rw [flat_len]) fun t ht=>?_
 have ht':t<l.length * 2:=by simpa using ht
 rw [get_flatK spanV 2 ⟨l⟩ t ht']
 have e:(l.flatMap spanV).toArray[t]! = (l.flatMap spanV)[t]!:=by simp
 have e2:∀ i,(l.toArray)[i]! = l[i]!:=fun i=>by first | rfl | exact (List.getElem!_toArray ..) | (by_cases h:i<l.length <;> simp [h])
 show (spanV l.toArray[t / 2]!)[t % 2]! = (l.flatMap spanV).toArray[t]!
 rw [e,flat_get l t ht',e2]
def laysSpan_ren:Go.Shelf.Ren:=⟨fun | 6=>229 | 15=>154 | 14=>258 | 28=>200 | 29=>201 | 20=>271 | 21=>272 | 22=>273 | 23=>274 | 24=>275 | 25=>276 | 26=>277 | 27=>278 | 46=>284 | 47=>223 | 48=>224 | 49=>285 | 50=>286 | 57=>287 | n=>n,fun | 22=>198 | 24=>234 | 25=>258 | 3=>3 | 39=>192 | 0=>0 | 53=>228 | 55=>230 | 4=>4 | 46=>221 | 45=>220 | 50=>225 | 5=>5 | 9=>9 | 66=>249 | 70=>253 | 76=>279 | 77=>280 | n=>n,fun | n=>n⟩
theorem laysSpan:Go.Proofs.SlLaysF0.n6 Tryz.prog laysSpan_ren:={
 mixed:=by kernel_rfl
 f6:=⟨Tryz.f229.name,by decide,Tryz.func229.trans (congrArg some (by kernel_rfl))⟩
 f14:=⟨Tryz.f258.name,by decide,Tryz.func258.trans (congrArg some (by kernel_rfl))⟩
 f15:=Tryz.func154.trans (congrArg some (by kernel_rfl))
 f20:=⟨Tryz.f271.name,by decide,Tryz.func271.trans (congrArg some (by kernel_rfl))⟩
 f21:=⟨Tryz.f272.name,by decide,Tryz.func272.trans (congrArg some (by kernel_rfl))⟩
 f22:=⟨Tryz.f273.name,by decide,Tryz.func273.trans (congrArg some (by kernel_rfl))⟩
 f23:=⟨Tryz.f274.name,by decide,Tryz.func274.trans (congrArg some (by kernel_rfl))⟩
 f24:=⟨Tryz.f275.name,by decide,Tryz.func275.trans (congrArg some (by kernel_rfl))⟩
 f25:=⟨Tryz.f276.name,by decide,Tryz.func276.trans (congrArg some (by kernel_rfl))⟩
 f26:=⟨Tryz.f277.name,by decide,Tryz.func277.trans (congrArg some (by kernel_rfl))⟩
 f27:=⟨Tryz.f278.name,by decide,Tryz.func278.trans (congrArg some (by kernel_rfl))⟩
 f28:=Tryz.func200.trans (congrArg some (by kernel_rfl))
 f29:=Tryz.func201.trans (congrArg some (by kernel_rfl))
 f46:=⟨Tryz.f284.name,by decide,Tryz.func284.trans (congrArg some (by kernel_rfl))⟩
 f47:=Tryz.func223.trans (congrArg some (by kernel_rfl))
 f48:=Tryz.func224.trans (congrArg some (by kernel_rfl))
 f49:=⟨Tryz.f285.name,by decide,Tryz.func285.trans (congrArg some (by kernel_rfl))⟩
 f50:=⟨Tryz.f286.name,by decide,Tryz.func286.trans (congrArg some (by kernel_rfl))⟩
 f57:=⟨Tryz.f287.name,by decide,Tryz.func287.trans (congrArg some (by kernel_rfl))⟩
 t0:=Tryz.underlying0
 a0:=Tryz.isAgg0
 z0:=Tryz.sizeOf0
 v0:=Tryz.zeroValue0
 t3:=Tryz.underlying3
 a3:=Tryz.isAgg3
 z3:=Tryz.sizeOf3
 v3:=Tryz.zeroValue3
 t4:=Tryz.underlying4
 a4:=Tryz.isAgg4
 z4:=Tryz.sizeOf4
 v4:=Tryz.zeroValue4
 t5:=Tryz.underlying5
 a5:=Tryz.isAgg5
 z5:=Tryz.sizeOf5
 v5:=Tryz.zeroValue5
 t9:=Tryz.underlying9
 a9:=Tryz.isAgg9
 z9:=Tryz.sizeOf9
 v9:=Tryz.zeroValue9
 t22:=Tryz.underlying198
 a22:=Tryz.isAgg198
 z22:=Tryz.sizeOf198
 v22:=Tryz.zeroValue198
 t25:=Tryz.underlying258
 a25:=Tryz.isAgg258
 z25:=Tryz.sizeOf258
 v25:=Tryz.zeroValue258
 t39:=Tryz.underlying192
 a39:=Tryz.isAgg192
 z39:=Tryz.sizeOf192
 v39:=Tryz.zeroValue192
 t45:=Tryz.underlying220
 a45:=Tryz.isAgg220
 z45:=Tryz.sizeOf220
 v45:=Tryz.zeroValue220
 t46:=Tryz.underlying221
 a46:=Tryz.isAgg221
 z46:=Tryz.sizeOf221
 v46:=Tryz.zeroValue221
 t50:=Tryz.underlying225
 a50:=Tryz.isAgg225
 z50:=Tryz.sizeOf225
 v50:=Tryz.zeroValue225
 t53:=Tryz.underlying228
 a53:=Tryz.isAgg228
 z53:=Tryz.sizeOf228
 v53:=Tryz.zeroValue228
 t55:=Tryz.underlying230
 a55:=Tryz.isAgg230
 z55:=Tryz.sizeOf230
 v55:=Tryz.zeroValue230
 t66:=Tryz.underlying249
 a66:=Tryz.isAgg249
 z66:=Tryz.sizeOf249
 v66:=Tryz.zeroValue249
 t70:=Tryz.underlying253
 a70:=Tryz.isAgg253
 z70:=Tryz.sizeOf253
 v70:=Tryz.zeroValue253
 t76:=Tryz.underlying279
 a76:=Tryz.isAgg279
 z76:=Tryz.sizeOf279
 v76:=Tryz.zeroValue279
 t77:=Tryz.underlying280
 a77:=Tryz.isAgg280
 z77:=Tryz.sizeOf280
 v77:=Tryz.zeroValue280 }
set_option maxHeartbeats 1000000 in
theorem nan_walk (x:Int) (W:World):Calls Tryz.prog 155 #[.int .i64 x] W fun e w'=>e=.returned (.bool false)∧w'=W:=by
 go_enter Tryz.func155,Tryz.ntmps155
 go_wp2
 go_ret
 exact ⟨rfl,rfl⟩
set_option maxHeartbeats 1000000 in
theorem compare_walk (x y:Int) (W:World):Calls Tryz.prog 98 #[.int .i64 x,.int .i64 y] W fun e w'=>e=.returned (.int .i64 (cmpI x y))∧w'=W:=by
 unfold cmpI
 have h1:=fun x W=>nan_walk x W
 go_enter Tryz.func98,Tryz.ntmps98
 by_cases hxy:x<y
 ·rw [if_pos hxy]
  go_wp2_with (go_at_call 155;refine (h1 _ _).mono ?_;rintro e w' ⟨rfl,rfl⟩)
  go_ret
  exact ⟨rfl,rfl⟩
 ·rw [if_neg hxy]
  by_cases hyx:y<x
  ·rw [if_pos hyx]
   go_wp2_with (go_at_call 155;refine (h1 _ _).mono ?_;rintro e w' ⟨rfl,rfl⟩)
   go_ret
   exact ⟨rfl,rfl⟩
  ·rw [if_neg hyx]
   go_wp2_with (go_at_call 155;refine (h1 _ _).mono ?_;rintro e w' ⟨rfl,rfl⟩)
   go_ret
   exact ⟨rfl,rfl⟩
set_option maxHeartbeats 1000000 in
theorem closure_walk (x y:Int × Int) (W:World):Calls Tryz.prog 230 #[.agg #[.int .i64 x.1,.int .i64 x.2],.agg #[.int .i64 y.1,.int .i64 y.2]] W fun e w'=>e=.returned (.int .i64 (cmpS x y))∧∃ q os',w'=grow (W.drewN q) os':=by
 have hcon:=fun W'=>compare_walk x.1 y.1 W'
 unfold cmpS
 generalize cmpI x.1 y.1=r at hcon ⊢
 go_enter Tryz.func230,Tryz.ntmps230
 go_wp2_with (go_at_call 98;refine (hcon _).mono ?_;rintro e w' ⟨rfl,rfl⟩)
 go_ret
 exact ⟨rfl,0,_,by rw [alloc_eq_grow,alloc_eq_grow,grow_grow];rfl⟩
theorem ltO_eq (cf:(Int × Int)→(Int × Int)→Int):ltO cf=ltOf cf:=rfl
theorem conSpan:Bm.CellCon Tryz.prog 229 230 2 sortSF where
 row blk off cap n c d w hF hc hH hblk h0 hn hcap:=by
  unfold sortSF at hF
  cases e:spanD c with
  | none=>rw [e] at hF;cases hF
  | some l =>
   rw [e] at hF;cases hF
   have ec:=spanD_some e
   subst ec
   have hl:l.toArray.size=n:=by
    rw [flat_len] at hc
    simp;omega
   have eg:∀ args w,(callFunc 230 args).run Tryz.prog w=.ok (.enter 230 args) w:=enters_of Tryz.func230 (by kernel_rfl) rfl
   have con:=AnyQ.slices_SortFunc_eq laysSpan 2 Tryz.isAgg234 Tryz.sizeOf234 spanV (fun _=>rfl) (fun x v hv=>by simp [spanV] at hv;rcases hv with rfl | rfl <;> rfl) cmpS (ltO_eq cmpS ▸ swoS) 230 #[] blk off cap l.toArray w eg (fun _ _ _ _ x y=>closure_walk x y _) (by unfold HoldsK;rw [flatK_flat];exact hH) hblk (by rw [hl];exact hn)
   change Calls Tryz.prog 229 _ _ _ at con
   rw [hl] at con
   refine con.mono fun e w' he=>⟨he.1,?_⟩
   obtain ⟨m,os,rfl⟩:=he.2
   refine ⟨m,os,?_⟩
   unfold sortWorldK putRowK
   rw [flatK_flat]
   show _=grow (putRow id (Sort.ahead w m) blk off ((sortS l).flatMap spanV).toArray) os
   unfold sortS
   rw [hl,ltO_eq]
 none p cap w:=AnyF.slices_SortFunc_none laysSpan p cap _ w
 dfd:=⟨_,Tryz.func229,rfl⟩
 len c d h:=by
  unfold sortSF at h
  cases e:spanD c with
  | none=>rw [e] at h;cases h
  | some l =>
   rw [e] at h;cases h
   rw [spanD_some e,flat_len,flat_len,(sortS_perm l).length_eq]
 atoms c d h:=by
  unfold sortSF at h
  cases e:spanD c with
  | none=>rw [e] at h;cases h
  | some l =>
   rw [e] at h;cases h
   have key:∀ l:List (Int × Int),(l.flatMap spanV).all Bm.atom=true:=by
    intro l
    induction l with
    | nil=>rfl
    | cons x l ih=>rw [List.flatMap_cons,List.all_append,ih];rfl
   exact ⟨by rw [spanD_some e];exact key _,key _⟩
 pos:=by decide
end Go.Proofs.YtplebjehcgcdeaaGreatDoor
namespace Go.Proofs.YtplebjehcgcdeaaGreatDoor.Bm
open Go Go.RowKit Go.Lib
theorem iVol:∃ i,Tryz.prog.info? 60=some i∧i.zero=some (.agg #[.int .i64 0,.int .i64 0,.int .i64 0,.int .i64 0,.int .i64 0,.int .i64 0,.int .i64 0,.int .i64 0,.bool false])∧i.size=9∧i.bytes=72:=by
 have h:(Tryz.prog.info? 60).map (fun i=>(i.zero,i.size,i.bytes))=some (some (.agg #[.int .i64 0,.int .i64 0,.int .i64 0,.int .i64 0,.int .i64 0,.int .i64 0,.int .i64 0,.int .i64 0,.bool false]),9,72):=by kernel_rfl
 obtain ⟨i,h1,h2⟩:=Option.map_eq_some_iff.1 h
 simp only [Prod.mk.injEq] at h2
 exact ⟨i,h1,h2.1,h2.2.1,h2.2.2⟩
theorem tVol:Tryz.prog.underlying 52=some (.slice 60):=by kernel_rfl
set_option maxHeartbeats 2000000 in
set_option maxRecDepth 100000 in
theorem clone_zeroVol (a:Addr) (c:Nat) (w:World) :
  Calls Tryz.prog 128 #[.slice (some a) 0 c] w fun e w'=>∃ a' c',e=.returned (.slice (some a') 0 c')∧Below w.heap.size w w':=by
 obtain ⟨i0,hi,hz0,hz1,hz2⟩:=iVol
 have q22:∀ (w:World) (a:Option Addr) (n c n' c':Nat),(binOp .eql 52 (.slice a n c) (.slice none n' c')).run Tryz.prog w=.ok (.bool a.isNone) w:=fun w a n c n' c'=>Lib.run_eql_slice_nil w _ _ a n c n' c' tVol
 have u22:∀ w,Sem.run Tryz.prog (underlying 52) w=.ok (TypeDesc.slice 60) w:=run_underlying tVol
 go_enter Tryz.func128,Tryz.ntmps128
 go_wp2_with (at_builtin;refine wpList_append_own _ rfl _ _ 52 rfl w.heap.size 60 i0 (.agg #[.int .i64 0,.int .i64 0,.int .i64 0,.int .i64 0,.int .i64 0,.int .i64 0,.int .i64 0,.int .i64 0,.bool false]) 9 72 tVol hi hz0 hz1 hz2 rfl (by decide) _ _ _ rfl (World.ownsRow_made w #[] 0 (Nat.le_refl _) (Nat.zero_le _) rfl) a 0 c [] rfl rfl (by intro j u hj;simp at hj) (by intro u hu;cases hu) (by unfold maxLen;omega) (by omega) (by simp) ?_)
 intro v' w1 hown hgrow hnil
 go_wp2
 go_ret
 have hne:v'≠.slice none 0 0:=by first | exact hnil | (intro e;exact absurd (hnil.1 e).1 (by simp))
 have hbel:Below w.heap.size w w1:=((Below.refl _ w).alloc (Nat.le_refl _) _).grown hgrow (by simp) (by intro k hk;simp [Value.ownBlock] at hk;omega)
 rcases hown.2 with ⟨e,_⟩ | ⟨g,cap,cur,e,_⟩
 ·exact absurd e hne
 ·exact ⟨_,cap,by rw [e];rfl,hbel⟩
theorem clone_nilVol (w:World):Calls Tryz.prog 128 #[.slice none 0 0] w fun e w'=>e=.returned (.slice none 0 0)∧w'=w:=by
 have q22:∀ (w:World) (a:Option Addr) (n c n' c':Nat),(binOp .eql 52 (.slice a n c) (.slice none n' c')).run Tryz.prog w=.ok (.bool a.isNone) w:=fun w a n c n' c'=>Lib.run_eql_slice_nil w _ _ a n c n' c' tVol
 go_enter Tryz.func128,Tryz.ntmps128
 go_wp2
 go_ret
 exact ⟨rfl,rfl⟩
theorem conCloVol:CloCon Tryz.prog 128:=⟨⟨_,Tryz.func128,rfl⟩,clone_zeroVol,clone_nilVol⟩
theorem iEnt:∃ i,Tryz.prog.info? 83=some i∧i.zero=some (.agg #[.string ⟨⟨[]⟩⟩,.int .i64 0])∧i.size=2∧i.bytes=24:=by
 have h:(Tryz.prog.info? 83).map (fun i=>(i.zero,i.size,i.bytes))=some (some (.agg #[.string ⟨⟨[]⟩⟩,.int .i64 0]),2,24):=by kernel_rfl
 obtain ⟨i,h1,h2⟩:=Option.map_eq_some_iff.1 h
 simp only [Prod.mk.injEq] at h2
 exact ⟨i,h1,h2.1,h2.2.1,h2.2.2⟩
theorem tEnt:Tryz.prog.underlying 76=some (.slice 83):=by kernel_rfl
set_option maxHeartbeats 2000000 in
set_option maxRecDepth 100000 in
theorem clone_zeroEnt (a:Addr) (c:Nat) (w:World) :
  Calls Tryz.prog 129 #[.slice (some a) 0 c] w fun e w'=>∃ a' c',e=.returned (.slice (some a') 0 c')∧Below w.heap.size w w':=by
 obtain ⟨i0,hi,hz0,hz1,hz2⟩:=iEnt
 have q22:∀ (w:World) (a:Option Addr) (n c n' c':Nat),(binOp .eql 76 (.slice a n c) (.slice none n' c')).run Tryz.prog w=.ok (.bool a.isNone) w:=fun w a n c n' c'=>Lib.run_eql_slice_nil w _ _ a n c n' c' tEnt
 have u22:∀ w,Sem.run Tryz.prog (underlying 76) w=.ok (TypeDesc.slice 83) w:=run_underlying tEnt
 go_enter Tryz.func129,Tryz.ntmps129
 go_wp2_with (at_builtin;refine wpList_append_own _ rfl _ _ 76 rfl w.heap.size 83 i0 (.agg #[.string ⟨⟨[]⟩⟩,.int .i64 0]) 2 24 tEnt hi hz0 hz1 hz2 rfl (by decide) _ _ _ rfl (World.ownsRow_made w #[] 0 (Nat.le_refl _) (Nat.zero_le _) rfl) a 0 c [] rfl rfl (by intro j u hj;simp at hj) (by intro u hu;cases hu) (by unfold maxLen;omega) (by omega) (by simp) ?_)
 intro v' w1 hown hgrow hnil
 go_wp2
 go_ret
 have hne:v'≠.slice none 0 0:=by first | exact hnil | (intro e;exact absurd (hnil.1 e).1 (by simp))
 have hbel:Below w.heap.size w w1:=((Below.refl _ w).alloc (Nat.le_refl _) _).grown hgrow (by simp) (by intro k hk;simp [Value.ownBlock] at hk;omega)
 rcases hown.2 with ⟨e,_⟩ | ⟨g,cap,cur,e,_⟩
 ·exact absurd e hne
 ·exact ⟨_,cap,by rw [e];rfl,hbel⟩
theorem clone_nilEnt (w:World):Calls Tryz.prog 129 #[.slice none 0 0] w fun e w'=>e=.returned (.slice none 0 0)∧w'=w:=by
 have q22:∀ (w:World) (a:Option Addr) (n c n' c':Nat),(binOp .eql 76 (.slice a n c) (.slice none n' c')).run Tryz.prog w=.ok (.bool a.isNone) w:=fun w a n c n' c'=>Lib.run_eql_slice_nil w _ _ a n c n' c' tEnt
 go_enter Tryz.func129,Tryz.ntmps129
 go_wp2
 go_ret
 exact ⟨rfl,rfl⟩
theorem conCloEnt:CloCon Tryz.prog 129:=⟨⟨_,Tryz.func129,rfl⟩,clone_zeroEnt,clone_nilEnt⟩
end Go.Proofs.YtplebjehcgcdeaaGreatDoor.Bm
namespace Go.Proofs.YtplebjehcgcdeaaGreatDoor
open Go Go.RowKit Go.Shelf
def layBd_ren:Go.Shelf.Ren:=⟨fun | 240=>116 | 276=>170 | 169=>52 | n=>n,fun | 0=>0 | 3=>3 | 4=>4 | 5=>5 | 9=>9 | 20=>20 | 37=>94 | 70=>93 | 72=>96 | 127=>165 | 164=>206 | n=>n,fun | n=>n⟩
theorem layB240:Go.Proofs.Lays.n240 Tryz.prog layBd_ren:={
 mixed:=by kernel_rfl
 f240:=Tryz.func116.trans (congrArg some (by kernel_rfl))
 f276:=Tryz.func170.trans (congrArg some (by kernel_rfl))
 t0:=Tryz.underlying0
 a0:=Tryz.isAgg0
 z0:=Tryz.sizeOf0
 v0:=Tryz.zeroValue0
 t4:=Tryz.underlying4
 a4:=Tryz.isAgg4
 z4:=Tryz.sizeOf4
 v4:=Tryz.zeroValue4
 t9:=Tryz.underlying9
 a9:=Tryz.isAgg9
 z9:=Tryz.sizeOf9
 v9:=Tryz.zeroValue9
 t20:=Tryz.underlying20
 a20:=Tryz.isAgg20
 z20:=Tryz.sizeOf20
 v20:=Tryz.zeroValue20
 t70:=Tryz.underlying93
 a70:=Tryz.isAgg93
 z70:=Tryz.sizeOf93
 v70:=Tryz.zeroValue93
 t72:=Tryz.underlying96
 a72:=Tryz.isAgg96
 z72:=Tryz.sizeOf96
 v72:=Tryz.zeroValue96
 t164:=Tryz.underlying206
 a164:=Tryz.isAgg206
 z164:=Tryz.sizeOf206
 v164:=Tryz.zeroValue206 }
theorem layB169:Go.Proofs.Lays.n169 Tryz.prog layBd_ren:={
 mixed:=by kernel_rfl
 f169:=Tryz.func52.trans (congrArg some (by kernel_rfl))
 t0:=Tryz.underlying0
 a0:=Tryz.isAgg0
 z0:=Tryz.sizeOf0
 v0:=Tryz.zeroValue0
 t3:=Tryz.underlying3
 a3:=Tryz.isAgg3
 z3:=Tryz.sizeOf3
 v3:=Tryz.zeroValue3
 t9:=Tryz.underlying9
 a9:=Tryz.isAgg9
 z9:=Tryz.sizeOf9
 v9:=Tryz.zeroValue9
 t37:=Tryz.underlying94
 a37:=Tryz.isAgg94
 z37:=Tryz.sizeOf94
 v37:=Tryz.zeroValue94
 t70:=Tryz.underlying93
 a70:=Tryz.isAgg93
 z70:=Tryz.sizeOf93
 v70:=Tryz.zeroValue93
 t72:=Tryz.underlying96
 a72:=Tryz.isAgg96
 z72:=Tryz.sizeOf96
 v72:=Tryz.zeroValue96
 t127:=Tryz.underlying165
 a127:=Tryz.isAgg165
 z127:=Tryz.sizeOf165
 v127:=Tryz.zeroValue165 }
theorem layX72:Go.Proofs.Builder.X72 Tryz.prog layBd_ren:={
 sizeBuilder:=by kernel_rfl
 liesBuilder:=by kernel_rfl }
theorem layXB:Go.Proofs.Builder.Extra Tryz.prog layBd_ren:={
 toX72:=layX72
 t5:=Tryz.underlying5
 a5:=Tryz.isAgg5
 z5:=Tryz.sizeOf5
 v5:=Tryz.zeroValue5
 infoByte:=by kernel_rfl
 cellsByte:=by kernel_rfl
 sizeByte:=by kernel_rfl
 neB5:=by decide }
theorem conBld:Bm.BldCon Tryz.prog 116 52 96 5 where
 ccd:=⟨_,Tryz.func116,rfl⟩
 std:=⟨_,Tryz.func52,rfl⟩
 fresh b n w h0 hsh hn hfz:=Bm.fresh_walk layB240 layX72 (of_decide_eq_true (by kernel_rfl)) (by kernel_rfl) b n w h0 hsh hn hfz
 used b w h0:=Any.Builder_copyCheck_used layB240 layX72 b w h0
 str b g cap m l w c0 hsh h0 hcap hm h63 hcell:=Bm.string_walk layB169 layXB b g cap m l w c0 hsh h0 hcap hm h63 hcell
end Go.Proofs.YtplebjehcgcdeaaGreatDoor
namespace Go.Proofs.YtplebjehcgcdeaaGreatDoor
open Go Go.RowKit Go.Shelf Go.Sort
def laysPrb_ren:Go.Shelf.Ren:=⟨fun | 6=>95 | 15=>154 | 14=>153 | 28=>200 | 29=>201 | 20=>192 | 21=>193 | 22=>194 | 23=>195 | 24=>196 | 25=>197 | 26=>198 | 27=>199 | 46=>222 | 47=>223 | 48=>224 | 49=>225 | 50=>226 | 57=>257 | n=>n,fun | 22=>68 | 24=>67 | 25=>146 | 3=>3 | 39=>192 | 0=>0 | 53=>228 | 55=>230 | 4=>4 | 46=>221 | 45=>220 | 50=>225 | 5=>5 | 9=>9 | 66=>249 | 70=>253 | 76=>279 | 77=>280 | n=>n,fun | n=>n⟩
theorem laysPrb:Go.Proofs.SlLaysF0.n6 Tryz.prog laysPrb_ren:={
 mixed:=by kernel_rfl
 f6:=⟨Tryz.f95.name,by decide,Tryz.func95.trans (congrArg some (by kernel_rfl))⟩
 f14:=⟨Tryz.f153.name,by decide,Tryz.func153.trans (congrArg some (by kernel_rfl))⟩
 f15:=Tryz.func154.trans (congrArg some (by kernel_rfl))
 f20:=⟨Tryz.f192.name,by decide,Tryz.func192.trans (congrArg some (by kernel_rfl))⟩
 f21:=⟨Tryz.f193.name,by decide,Tryz.func193.trans (congrArg some (by kernel_rfl))⟩
 f22:=⟨Tryz.f194.name,by decide,Tryz.func194.trans (congrArg some (by kernel_rfl))⟩
 f23:=⟨Tryz.f195.name,by decide,Tryz.func195.trans (congrArg some (by kernel_rfl))⟩
 f24:=⟨Tryz.f196.name,by decide,Tryz.func196.trans (congrArg some (by kernel_rfl))⟩
 f25:=⟨Tryz.f197.name,by decide,Tryz.func197.trans (congrArg some (by kernel_rfl))⟩
 f26:=⟨Tryz.f198.name,by decide,Tryz.func198.trans (congrArg some (by kernel_rfl))⟩
 f27:=⟨Tryz.f199.name,by decide,Tryz.func199.trans (congrArg some (by kernel_rfl))⟩
 f28:=Tryz.func200.trans (congrArg some (by kernel_rfl))
 f29:=Tryz.func201.trans (congrArg some (by kernel_rfl))
 f46:=⟨Tryz.f222.name,by decide,Tryz.func222.trans (congrArg some (by kernel_rfl))⟩
 f47:=Tryz.func223.trans (congrArg some (by kernel_rfl))
 f48:=Tryz.func224.trans (congrArg some (by kernel_rfl))
 f49:=⟨Tryz.f225.name,by decide,Tryz.func225.trans (congrArg some (by kernel_rfl))⟩
 f50:=⟨Tryz.f226.name,by decide,Tryz.func226.trans (congrArg some (by kernel_rfl))⟩
 f57:=⟨Tryz.f257.name,by decide,Tryz.func257.trans (congrArg some (by kernel_rfl))⟩
 t0:=Tryz.underlying0
 a0:=Tryz.isAgg0
 z0:=Tryz.sizeOf0
 v0:=Tryz.zeroValue0
 t3:=Tryz.underlying3
 a3:=Tryz.isAgg3
 z3:=Tryz.sizeOf3
 v3:=Tryz.zeroValue3
 t4:=Tryz.underlying4
 a4:=Tryz.isAgg4
 z4:=Tryz.sizeOf4
 v4:=Tryz.zeroValue4
 t5:=Tryz.underlying5
 a5:=Tryz.isAgg5
 z5:=Tryz.sizeOf5
 v5:=Tryz.zeroValue5
 t9:=Tryz.underlying9
 a9:=Tryz.isAgg9
 z9:=Tryz.sizeOf9
 v9:=Tryz.zeroValue9
 t22:=Tryz.underlying68
 a22:=Tryz.isAgg68
 z22:=Tryz.sizeOf68
 v22:=Tryz.zeroValue68
 t25:=Tryz.underlying146
 a25:=Tryz.isAgg146
 z25:=Tryz.sizeOf146
 v25:=Tryz.zeroValue146
 t39:=Tryz.underlying192
 a39:=Tryz.isAgg192
 z39:=Tryz.sizeOf192
 v39:=Tryz.zeroValue192
 t45:=Tryz.underlying220
 a45:=Tryz.isAgg220
 z45:=Tryz.sizeOf220
 v45:=Tryz.zeroValue220
 t46:=Tryz.underlying221
 a46:=Tryz.isAgg221
 z46:=Tryz.sizeOf221
 v46:=Tryz.zeroValue221
 t50:=Tryz.underlying225
 a50:=Tryz.isAgg225
 z50:=Tryz.sizeOf225
 v50:=Tryz.zeroValue225
 t53:=Tryz.underlying228
 a53:=Tryz.isAgg228
 z53:=Tryz.sizeOf228
 v53:=Tryz.zeroValue228
 t55:=Tryz.underlying230
 a55:=Tryz.isAgg230
 z55:=Tryz.sizeOf230
 v55:=Tryz.zeroValue230
 t66:=Tryz.underlying249
 a66:=Tryz.isAgg249
 z66:=Tryz.sizeOf249
 v66:=Tryz.zeroValue249
 t70:=Tryz.underlying253
 a70:=Tryz.isAgg253
 z70:=Tryz.sizeOf253
 v70:=Tryz.zeroValue253
 t76:=Tryz.underlying279
 a76:=Tryz.isAgg279
 z76:=Tryz.sizeOf279
 v76:=Tryz.zeroValue279
 t77:=Tryz.underlying280
 a77:=Tryz.isAgg280
 z77:=Tryz.sizeOf280
 v77:=Tryz.zeroValue280 }
theorem conPrb:Bm.PrbCon Tryz.prog 95 96 where
 dfd:=⟨_,Tryz.func95,rfl⟩
 nls p cap x w:=AnyF.slices_SortFunc_none laysPrb p cap _ w
 sort cf hO x blk off cap d w hcmp hH hb hsz :=
  AnyQ.slices_SortFunc laysPrb 4 Tryz.isAgg67 Tryz.sizeOf67 Bm.prV (fun _=>rfl) (fun x v hv=>by simp [Bm.prV] at hv;rcases hv with rfl | rfl | rfl | rfl <;> rfl) cf hO 96 #[x] blk off cap d w
   (enters_of Tryz.func96 (by kernel_rfl) rfl) hcmp hH hb hsz
end Go.Proofs.YtplebjehcgcdeaaGreatDoor
namespace Go.Proofs.YtplebjehcgcdeaaGreatDoor
open Go Go.RowKit Go.Shelf Go.Sort
def layIB_ren:Go.Shelf.Ren:=⟨fun | 137=>183 | 217=>217 | 266=>250 | n=>n,fun | 9=>9 | 5=>5 | 3=>3 | n=>n,fun | n=>n⟩
theorem layIB:Go.Proofs.Lays.n137 Tryz.prog layIB_ren:={
 mixed:=by kernel_rfl
 f137:=Tryz.func183.trans (congrArg some (by kernel_rfl))
 f217:=Tryz.func217.trans (congrArg some (by kernel_rfl))
 f266:=Tryz.func250.trans (congrArg some (by kernel_rfl))
 t3:=Tryz.underlying3
 a3:=Tryz.isAgg3
 z3:=Tryz.sizeOf3
 v3:=Tryz.zeroValue3
 t5:=Tryz.underlying5
 a5:=Tryz.isAgg5
 z5:=Tryz.sizeOf5
 v5:=Tryz.zeroValue5
 t9:=Tryz.underlying9
 a9:=Tryz.isAgg9
 z9:=Tryz.sizeOf9
 v9:=Tryz.zeroValue9 }
def layCo_ren:Go.Shelf.Ren:=⟨fun | 144=>133 | 143=>178 | 219=>214 | 217=>217 | 225=>247 | 224=>248 | 267=>249 | 266=>250 | 314=>266 | n=>n,fun | 9=>9 | 4=>4 | 3=>3 | 5=>5 | 46=>192 | 146=>288 | 51=>228 | n=>n,fun | 1=>0 | n=>n⟩
theorem layCo:Go.Proofs.Lays.n144 Tryz.prog layCo_ren:={
 mixed:=by kernel_rfl
 f143:=Tryz.func178.trans (congrArg some (by kernel_rfl))
 f144:=Tryz.func133.trans (congrArg some (by kernel_rfl))
 f217:=Tryz.func217.trans (congrArg some (by kernel_rfl))
 f219:=Tryz.func214.trans (congrArg some (by kernel_rfl))
 f224:=Tryz.func248.trans (congrArg some (by kernel_rfl))
 f225:=Tryz.func247.trans (congrArg some (by kernel_rfl))
 f266:=Tryz.func250.trans (congrArg some (by kernel_rfl))
 f267:=Tryz.func249.trans (congrArg some (by kernel_rfl))
 f314:=Tryz.func266.trans (congrArg some (by kernel_rfl))
 t3:=Tryz.underlying3
 a3:=Tryz.isAgg3
 z3:=Tryz.sizeOf3
 v3:=Tryz.zeroValue3
 t4:=Tryz.underlying4
 a4:=Tryz.isAgg4
 z4:=Tryz.sizeOf4
 v4:=Tryz.zeroValue4
 t5:=Tryz.underlying5
 a5:=Tryz.isAgg5
 z5:=Tryz.sizeOf5
 v5:=Tryz.zeroValue5
 t9:=Tryz.underlying9
 a9:=Tryz.isAgg9
 z9:=Tryz.sizeOf9
 v9:=Tryz.zeroValue9
 t46:=Tryz.underlying192
 a46:=Tryz.isAgg192
 z46:=Tryz.sizeOf192
 v46:=Tryz.zeroValue192
 t51:=Tryz.underlying228
 a51:=Tryz.isAgg228
 z51:=Tryz.sizeOf228
 v51:=Tryz.zeroValue228
 t146:=Tryz.underlying288
 a146:=Tryz.isAgg288
 z146:=Tryz.sizeOf288
 v146:=Tryz.zeroValue288
 g1:=by kernel_rfl }
def layIt_ren:Go.Shelf.Ren:=⟨fun | 171=>119 | 243=>171 | 246=>212 | 283=>234 | 284=>235 | 285=>236 | 286=>237 | 129=>201 | 317=>259 | 318=>260 | 319=>261 | 320=>262 | 337=>279 | 338=>280 | n=>n,fun | 3=>3 | 9=>9 | 2=>2 | 4=>4 | 171=>263 | 0=>0 | 53=>230 | 37=>94 | 5=>5 | 173=>265 | 212=>284 | 51=>228 | 20=>20 | 213=>285 | 46=>192 | 232=>307 | 233=>308 | n=>n,fun | 17=>1 | 18=>4 | 19=>5 | n=>n⟩
theorem layIt:Go.Proofs.LaysM.n171 Tryz.prog layIt_ren:={
 mixed:=by kernel_rfl
 f129:=Tryz.func201.trans (congrArg some (by kernel_rfl))
 f171:=Tryz.func119.trans (congrArg some (by kernel_rfl))
 f243:=Tryz.func171.trans (congrArg some (by kernel_rfl))
 f246:=Tryz.func212.trans (congrArg some (by kernel_rfl))
 f283:=Tryz.func234.trans (congrArg some (by kernel_rfl))
 f284:=Tryz.func235.trans (congrArg some (by kernel_rfl))
 f285:=Tryz.func236.trans (congrArg some (by kernel_rfl))
 f286:=Tryz.func237.trans (congrArg some (by kernel_rfl))
 f317:=Tryz.func259.trans (congrArg some (by kernel_rfl))
 f318:=Tryz.func260.trans (congrArg some (by kernel_rfl))
 f319:=Tryz.func261.trans (congrArg some (by kernel_rfl))
 f320:=Tryz.func262.trans (congrArg some (by kernel_rfl))
 f337:=Tryz.func279.trans (congrArg some (by kernel_rfl))
 f338:=Tryz.func280.trans (congrArg some (by kernel_rfl))
 t0:=Tryz.underlying0
 a0:=Tryz.isAgg0
 z0:=Tryz.sizeOf0
 v0:=Tryz.zeroValue0
 t2:=Tryz.underlying2
 a2:=Tryz.isAgg2
 z2:=Tryz.sizeOf2
 v2:=Tryz.zeroValue2
 t3:=Tryz.underlying3
 a3:=Tryz.isAgg3
 z3:=Tryz.sizeOf3
 v3:=Tryz.zeroValue3
 t4:=Tryz.underlying4
 a4:=Tryz.isAgg4
 z4:=Tryz.sizeOf4
 v4:=Tryz.zeroValue4
 t5:=Tryz.underlying5
 a5:=Tryz.isAgg5
 z5:=Tryz.sizeOf5
 v5:=Tryz.zeroValue5
 t9:=Tryz.underlying9
 a9:=Tryz.isAgg9
 z9:=Tryz.sizeOf9
 v9:=Tryz.zeroValue9
 t20:=Tryz.underlying20
 a20:=Tryz.isAgg20
 z20:=Tryz.sizeOf20
 v20:=Tryz.zeroValue20
 t37:=Tryz.underlying94
 a37:=Tryz.isAgg94
 z37:=Tryz.sizeOf94
 v37:=Tryz.zeroValue94
 t46:=Tryz.underlying192
 a46:=Tryz.isAgg192
 z46:=Tryz.sizeOf192
 v46:=Tryz.zeroValue192
 t51:=Tryz.underlying228
 a51:=Tryz.isAgg228
 z51:=Tryz.sizeOf228
 v51:=Tryz.zeroValue228
 t53:=Tryz.underlying230
 a53:=Tryz.isAgg230
 z53:=Tryz.sizeOf230
 v53:=Tryz.zeroValue230
 t171:=Tryz.underlying263
 a171:=Tryz.isAgg263
 z171:=Tryz.sizeOf263
 v171:=Tryz.zeroValue263
 t173:=Tryz.underlying265
 a173:=Tryz.isAgg265
 z173:=Tryz.sizeOf265
 v173:=Tryz.zeroValue265
 t212:=Tryz.underlying284
 a212:=Tryz.isAgg284
 z212:=Tryz.sizeOf284
 v212:=Tryz.zeroValue284
 t213:=Tryz.underlying285
 a213:=Tryz.isAgg285
 z213:=Tryz.sizeOf285
 t232:=Tryz.underlying307
 a232:=Tryz.isAgg307
 z232:=Tryz.sizeOf307
 v232:=Tryz.zeroValue307
 t233:=Tryz.underlying308
 a233:=Tryz.isAgg308
 z233:=Tryz.sizeOf308
 v233:=Tryz.zeroValue308
 g17:=by kernel_rfl
 g18:=by kernel_rfl
 g19:=by kernel_rfl
 i0:=by kernel_rfl
 i2:=by kernel_rfl
 i3:=by kernel_rfl
 i4:=by kernel_rfl
 i5:=by kernel_rfl
 i9:=by kernel_rfl
 i20:=by kernel_rfl
 i37:=by kernel_rfl
 i46:=by kernel_rfl
 i51:=by kernel_rfl
 i53:=by kernel_rfl
 i171:=by kernel_rfl
 i173:=by kernel_rfl
 i212:=by kernel_rfl
 i232:=by kernel_rfl
 i233:=by kernel_rfl
 m17:=by kernel_rfl
 m18:=by kernel_rfl
 m19:=by kernel_rfl }
def layAt_ren:Go.Shelf.Ren:=⟨fun | 172=>185 | 244=>218 | 245=>219 | 247=>251 | 279=>252 | 280=>253 | 281=>254 | 282=>255 | 287=>267 | 316=>268 | 171=>119 | 205=>269 | 321=>282 | 322=>283 | 243=>171 | 246=>212 | 283=>234 | 284=>235 | 285=>236 | 286=>237 | 129=>201 | 317=>259 | 318=>260 | 319=>261 | 320=>262 | 337=>279 | 338=>280 | n=>n,fun | 9=>9 | 3=>3 | 75=>98 | 76=>99 | 4=>4 | 5=>5 | 167=>273 | 37=>94 | 0=>0 | 85=>274 | 2=>2 | 168=>276 | 53=>230 | 175=>290 | 46=>192 | 210=>293 | 127=>165 | 145=>304 | 143=>302 | 21=>21 | 171=>263 | 173=>265 | 212=>284 | 51=>228 | 20=>20 | 213=>285 | 232=>307 | 233=>308 | 80=>104 | n=>n,fun | 15=>2 | 16=>3 | 17=>1 | 18=>4 | 19=>5 | n=>n⟩
theorem layAt:Go.Proofs.LaysC.n172 Tryz.prog layAt_ren:={
 mixed:=by kernel_rfl
 f129:=Tryz.func201.trans (congrArg some (by kernel_rfl))
 f171:=Tryz.func119.trans (congrArg some (by kernel_rfl))
 f172:=Tryz.func185.trans (congrArg some (by kernel_rfl))
 f205:=Tryz.func269.trans (congrArg some (by kernel_rfl))
 f243:=Tryz.func171.trans (congrArg some (by kernel_rfl))
 f244:=Tryz.func218.trans (congrArg some (by kernel_rfl))
 f245:=Tryz.func219.trans (congrArg some (by kernel_rfl))
 f246:=Tryz.func212.trans (congrArg some (by kernel_rfl))
 f247:=Tryz.func251.trans (congrArg some (by kernel_rfl))
 f279:=Tryz.func252.trans (congrArg some (by kernel_rfl))
 f280:=Tryz.func253.trans (congrArg some (by kernel_rfl))
 f281:=Tryz.func254.trans (congrArg some (by kernel_rfl))
 f282:=Tryz.func255.trans (congrArg some (by kernel_rfl))
 f283:=Tryz.func234.trans (congrArg some (by kernel_rfl))
 f284:=Tryz.func235.trans (congrArg some (by kernel_rfl))
 f285:=Tryz.func236.trans (congrArg some (by kernel_rfl))
 f286:=Tryz.func237.trans (congrArg some (by kernel_rfl))
 f287:=Tryz.func267.trans (congrArg some (by kernel_rfl))
 f316:=Tryz.func268.trans (congrArg some (by kernel_rfl))
 f317:=Tryz.func259.trans (congrArg some (by kernel_rfl))
 f318:=Tryz.func260.trans (congrArg some (by kernel_rfl))
 f319:=Tryz.func261.trans (congrArg some (by kernel_rfl))
 f320:=Tryz.func262.trans (congrArg some (by kernel_rfl))
 f321:=Tryz.func282.trans (congrArg some (by kernel_rfl))
 f322:=Tryz.func283.trans (congrArg some (by kernel_rfl))
 f337:=Tryz.func279.trans (congrArg some (by kernel_rfl))
 f338:=Tryz.func280.trans (congrArg some (by kernel_rfl))
 t0:=Tryz.underlying0
 a0:=Tryz.isAgg0
 z0:=Tryz.sizeOf0
 v0:=Tryz.zeroValue0
 t2:=Tryz.underlying2
 a2:=Tryz.isAgg2
 z2:=Tryz.sizeOf2
 v2:=Tryz.zeroValue2
 t3:=Tryz.underlying3
 a3:=Tryz.isAgg3
 z3:=Tryz.sizeOf3
 v3:=Tryz.zeroValue3
 t4:=Tryz.underlying4
 a4:=Tryz.isAgg4
 z4:=Tryz.sizeOf4
 v4:=Tryz.zeroValue4
 t5:=Tryz.underlying5
 a5:=Tryz.isAgg5
 z5:=Tryz.sizeOf5
 v5:=Tryz.zeroValue5
 t9:=Tryz.underlying9
 a9:=Tryz.isAgg9
 z9:=Tryz.sizeOf9
 v9:=Tryz.zeroValue9
 t20:=Tryz.underlying20
 a20:=Tryz.isAgg20
 z20:=Tryz.sizeOf20
 v20:=Tryz.zeroValue20
 t21:=Tryz.underlying21
 a21:=Tryz.isAgg21
 z21:=Tryz.sizeOf21
 v21:=Tryz.zeroValue21
 t37:=Tryz.underlying94
 a37:=Tryz.isAgg94
 z37:=Tryz.sizeOf94
 v37:=Tryz.zeroValue94
 t46:=Tryz.underlying192
 a46:=Tryz.isAgg192
 z46:=Tryz.sizeOf192
 v46:=Tryz.zeroValue192
 t51:=Tryz.underlying228
 a51:=Tryz.isAgg228
 z51:=Tryz.sizeOf228
 v51:=Tryz.zeroValue228
 t53:=Tryz.underlying230
 a53:=Tryz.isAgg230
 z53:=Tryz.sizeOf230
 v53:=Tryz.zeroValue230
 t75:=Tryz.underlying98
 a75:=Tryz.isAgg98
 z75:=Tryz.sizeOf98
 v75:=Tryz.zeroValue98
 t76:=Tryz.underlying99
 a76:=Tryz.isAgg99
 z76:=Tryz.sizeOf99
 v76:=Tryz.zeroValue99
 t85:=Tryz.underlying274
 a85:=Tryz.isAgg274
 z85:=Tryz.sizeOf274
 v85:=Tryz.zeroValue274
 t127:=Tryz.underlying165
 a127:=Tryz.isAgg165
 z127:=Tryz.sizeOf165
 v127:=Tryz.zeroValue165
 t143:=Tryz.underlying302
 a143:=Tryz.isAgg302
 z143:=Tryz.sizeOf302
 v143:=Tryz.zeroValue302
 t145:=Tryz.underlying304
 a145:=Tryz.isAgg304
 z145:=Tryz.sizeOf304
 v145:=Tryz.zeroValue304
 t167:=Tryz.underlying273
 a167:=Tryz.isAgg273
 z167:=Tryz.sizeOf273
 v167:=Tryz.zeroValue273
 t168:=Tryz.underlying276
 a168:=Tryz.isAgg276
 z168:=Tryz.sizeOf276
 v168:=Tryz.zeroValue276
 t171:=Tryz.underlying263
 a171:=Tryz.isAgg263
 z171:=Tryz.sizeOf263
 v171:=Tryz.zeroValue263
 t173:=Tryz.underlying265
 a173:=Tryz.isAgg265
 z173:=Tryz.sizeOf265
 v173:=Tryz.zeroValue265
 t175:=Tryz.underlying290
 a175:=Tryz.isAgg290
 z175:=Tryz.sizeOf290
 v175:=Tryz.zeroValue290
 t210:=Tryz.underlying293
 a210:=Tryz.isAgg293
 z210:=Tryz.sizeOf293
 v210:=Tryz.zeroValue293
 t212:=Tryz.underlying284
 a212:=Tryz.isAgg284
 z212:=Tryz.sizeOf284
 v212:=Tryz.zeroValue284
 t213:=Tryz.underlying285
 a213:=Tryz.isAgg285
 z213:=Tryz.sizeOf285
 t232:=Tryz.underlying307
 a232:=Tryz.isAgg307
 z232:=Tryz.sizeOf307
 v232:=Tryz.zeroValue307
 t233:=Tryz.underlying308
 a233:=Tryz.isAgg308
 z233:=Tryz.sizeOf308
 v233:=Tryz.zeroValue308
 g15:=by kernel_rfl
 g16:=by kernel_rfl
 g17:=by kernel_rfl
 g18:=by kernel_rfl
 g19:=by kernel_rfl
 t80:=Tryz.underlying104
 a80:=Tryz.isAgg104
 z80:=Tryz.sizeOf104
 v80:=Tryz.zeroValue104
 i0:=by kernel_rfl
 i2:=by kernel_rfl
 i3:=by kernel_rfl
 i4:=by kernel_rfl
 i5:=by kernel_rfl
 i9:=by kernel_rfl
 i20:=by kernel_rfl
 i21:=by kernel_rfl
 i37:=by kernel_rfl
 i46:=by kernel_rfl
 i51:=by kernel_rfl
 i53:=by kernel_rfl
 i75:=by kernel_rfl
 i76:=by kernel_rfl
 i80:=by kernel_rfl
 i85:=by kernel_rfl
 i127:=by kernel_rfl
 i143:=by kernel_rfl
 i145:=by kernel_rfl
 i167:=by kernel_rfl
 i168:=by kernel_rfl
 i171:=by kernel_rfl
 i173:=by kernel_rfl
 i175:=by kernel_rfl
 i210:=by kernel_rfl
 i212:=by kernel_rfl
 i232:=by kernel_rfl
 i233:=by kernel_rfl
 m15:=by kernel_rfl
 m16:=by kernel_rfl
 m17:=by kernel_rfl
 m18:=by kernel_rfl
 m19:=by kernel_rfl
 c0:=by kernel_rfl
 c2:=by kernel_rfl
 c3:=by kernel_rfl
 c4:=by kernel_rfl
 c5:=by kernel_rfl
 c9:=by kernel_rfl
 c20:=by kernel_rfl
 c21:=by kernel_rfl
 c37:=by kernel_rfl
 c46:=by kernel_rfl
 c51:=by kernel_rfl
 c53:=by kernel_rfl
 c75:=by kernel_rfl
 c76:=by kernel_rfl
 c80:=by kernel_rfl
 c85:=by kernel_rfl
 c127:=by kernel_rfl
 c143:=by kernel_rfl
 c145:=by kernel_rfl
 c167:=by kernel_rfl
 c168:=by kernel_rfl
 c171:=by kernel_rfl
 c173:=by kernel_rfl
 c175:=by kernel_rfl
 c210:=by kernel_rfl
 c212:=by kernel_rfl
 c213:=by kernel_rfl
 c232:=by kernel_rfl
 c233:=by kernel_rfl }
end Go.Proofs.YtplebjehcgcdeaaGreatDoor
namespace Go.Proofs.YtplebjehcgcdeaaGreatDoor.Bm
open Go Go.RowKit
structure GlobD (E:Env):Prop where
 prog:E.P=Tryz.prog
 dm:E.dm=false
 mx:0∈E.gany
 tab:(1,(Lib.pow10Tab.map fun z=>Value.int .u64 z).toArray)∈E.tabs
 syn:∃ T v,E.glob 2=some (.iface T v)
 ran:∃ T v,E.glob 3=some (.iface T v)
variable {E:Env} (hE:GlobD E)
include hE
theorem noD {p:Prop} (q:E.dm=true):p:=by rw [hE.dm] at q;cases q
theorem err_cell {g:Nat} (hg:∃ T v,E.glob g=some (.iface T v)) {w:World} (h:GlobAt E w):∃ te pe,w.cell? ⟨g,0,none⟩=some (.iface te pe):=by
 have _:=hE
 obtain ⟨T,v,hv⟩:=hg
 obtain ⟨Φ,h1,h2⟩:=h.val g _ hv
 cases h1 with
 | cptr _ _ f hsp k1 k2 =>
  obtain ⟨_,e⟩:=k1 0 (.iface T v) rfl
  have r:=k2 0 (.iface T v) rfl
  generalize f 0=u at *
  cases r with
  | atom _ ha=>simp [Bm.atom] at ha
  | iface _ _ v' _=>exact ⟨T,v',h2 _ _ _ e⟩
theorem conIB:ScaCon E 183 ixbF where
 dfd:=by rw [hE.prog];exact ⟨_,Tryz.func183,rfl⟩
 atoms args r h:=by
  unfold ixbF at h
  split at h
  ·rfl
  ·cases h
 calls args r h w _:=by
  unfold ixbF at h
  split at h
  ·rename_i s c
   cases h
   rw [hE.prog]
   refine (Any.strings_IndexByte layIB s c w).mono ?_
   rintro e w' ⟨rfl,rfl⟩
   exact ⟨_,rfl,fun M=>.atom _ rfl,Below.refl _ _,noD hE⟩
  ·cases h
theorem conCo:ScaCon E 133 contF where
 dfd:=by rw [hE.prog];exact ⟨_,Tryz.func133,rfl⟩
 atoms args r h:=by
  unfold contF at h
  split at h
  ·rfl
  ·cases h
 calls args r h w hg:=by
  unfold contF at h
  split at h
  ·rename_i s c
   rw [Option.ite_none_right_eq_some] at h
   obtain ⟨hs,h⟩:=h
   cases h
   rw [hE.prog]
   obtain ⟨m,hm⟩:=hg.any 0 hE.mx
   refine (Any.strings_Contains layCo s c m w hs hm).mono ?_
   rintro e w' ⟨rfl,rfl⟩
   exact ⟨_,rfl,fun M=>.atom _ rfl,Below.refl _ _,noD hE⟩
  ·cases h
theorem conIt:ScaCon E 119 itoaF where
 dfd:=by rw [hE.prog];exact ⟨_,Tryz.func119,rfl⟩
 atoms args r h:=by
  unfold itoaF at h
  split at h
  ·rfl
  ·cases h
 calls args r h w hg:=by
  unfold itoaF at h
  split at h
  ·rename_i n
   rw [Option.ite_none_right_eq_some] at h
   obtain ⟨⟨h0,h1⟩,h⟩:=h
   cases h
   rw [hE.prog]
   obtain ⟨ty,fz,ht⟩:=hg.tab _ _ hE.tab
   have htab : Lib.TabIs Tryz.prog w "internal/strconv.uint64pow10" .u64 Lib.pow10Tab := by
    unfold Lib.TabIs World.var?
    have e : Tryz.prog.globalNamed "internal/strconv.uint64pow10" = some 1 := by kernel_rfl
    rw [e,Option.bind_some,ht]
   refine (Any.strconv_Itoa layIt n h0 h1 w htab).mono ?_
   rintro e w' ⟨rfl,k,os,rfl⟩
   rw [itoL_eq h0 h1]
   refine ⟨_,rfl,fun M=>.atom _ rfl,?_,?_⟩
   ·exact ⟨rfl,rfl,rfl,by simp [Go.Sort.grow,World.drewN],fun j hj=>by simp only [Go.Sort.grow,World.drewN];rw [Array.getElem?_append_left hj]⟩
   ·exact noD hE
  ·cases h
theorem conAt:ScaCon E 185 (atoiF 276) where
 dfd:=by rw [hE.prog];exact ⟨_,Tryz.func185,rfl⟩
 atoms args r h:=by
  unfold atoiF at h
  split at h
  ·rfl
  ·cases h
 calls args r h w hg:=by
  unfold atoiF at h
  split at h
  ·rename_i s
   rw [Option.ite_none_right_eq_some] at h
   obtain ⟨hs,h⟩:=h
   rw [hE.prog]
   have bad:∀ (z:Int) (N:Nat) (M:Mem),VRel M (.tuple ⟨[.int .i64 z,.iface 276 undef]⟩) (.tuple #[.int .i64 z,.iface 276 (.pointer (some ⟨N,0,none⟩))]):=fun z N M=>by
    refine .tuple _ _ rfl fun i u u' h1 h2=>?_
    match i,h1,h2 with
    | 0,h1,h2=>cases h1;cases h2;exact .atom _ rfl
    | 1,h1,h2=>cases h1;cases h2;exact .iface _ _ _ (.top _)
   split at h
   ·rename_i v hv
    cases h
    refine (Any.strconv_Atoi_ok layAt s (by omega) v hv w).mono ?_
    rintro e w' ⟨rfl,hw⟩
    refine ⟨_,rfl,fun M=>?_,?_⟩
    ·refine .tuple _ _ rfl fun i u u' h1 h2=>?_
     match i,h1,h2 with
     | 0,h1,h2=>cases h1;cases h2;exact .atom _ rfl
     | 1,h1,h2=>cases h1;cases h2;exact .atom _ rfl
    ·rcases hw with rfl | ⟨t,rfl⟩
     ·exact ⟨Below.refl _ _,noD hE⟩
     ·exact ⟨Lib.bytesWorld_below ..,noD hE⟩
   ·rename_i hv
    cases h
    obtain ⟨te,pe,hc⟩:=err_cell hE hE.syn hg
    refine (Any.strconv_Atoi_syntax layAt s hs hv _ w hc (.inr ⟨_,_,rfl⟩)).mono ?_
    rintro e w' ⟨N,rfl,_,_,hb⟩
    exact ⟨_,rfl,fun M=>bad _ N M,hb,noD hE⟩
   ·rename_i hv
    cases h
    obtain ⟨te,pe,hc⟩:=err_cell hE hE.ran hg
    refine (Any.strconv_Atoi_range layAt s hs hv _ w hc (.inr ⟨_,_,rfl⟩)).mono ?_
    rintro e w' ⟨N,rfl,_,_,hb⟩
    exact ⟨_,rfl,fun M=>bad _ N M,hb,noD hE⟩
  ·cases h
end Go.Proofs.YtplebjehcgcdeaaGreatDoor.Bm
namespace Go.Proofs.YtplebjehcgcdeaaGreatDoor.Bm
open Go Go.RowKit
theorem okE:OkProg E.P:=okProg_of (by kernel_rfl) (by kernel_rfl)
theorem laidE:laidOutB E.P=true:=by kernel_rfl
theorem mapsE:mapsRowed E.P=true:=by kernel_rfl
theorem u4:E.P.underlying 4=some .bool:=by kernel_rfl
theorem globE:GlobD E where
 prog:=rfl
 dm:=rfl
 mx:=List.mem_singleton.2 rfl
 tab:=List.mem_singleton.2 rfl
 syn:=⟨_,_,rfl⟩
 ran:=⟨_,_,rfl⟩
structure OrcAt (E:Env) (f:FuncId) (g:List Value→Heap→Nat→Res):Prop where
 dfd:∃ fn,E.P.funcs[f]?=some fn∧fn.body.isSome=true
 snd:∀ args h lo v h',g args h lo=some (v,h')→lo≤h.length→∀ B M w (args':Array Value),HSim E B M h w→VRels M args args'.toList →
  Calls E.P f args' w fun e w'=>∃ v',e=.returned v'∧Out E B lo M h w v h' v' w'
 keep:∀ args h lo v h',g args h lo=some (v,h')→lo≤h.length→Keep lo h h'
theorem OrcAt.sca {f:FuncId} {F:List Value→Option Value} (hC:ScaCon E f F):OrcAt E f (scaG F) :=
 ⟨hC.dfd,fun _args _h _lo _v _h' hr _hlo _B _M _w args' hs hv=>sca_sound hC hr args' hs hv,fun _args _h _lo _v _h' hr _hlo=>sca_keep hr⟩
theorem OrcAt.clo {f:FuncId} (hC:CloCon E.P f):OrcAt E f (cloG E0 f) :=
 ⟨hC.dfd,fun _args _h _lo _v _h' hr hlo _B _M _w args' hs hv=>cloG_sound (E₀:=E0) rfl okE rfl rfl rfl rfl (fun _=>rfl) hC hr hlo args' hs hv,fun _args _h _lo _v _h' hr hlo=>cloG_keep (fun _=>rfl) hr hlo⟩
theorem OrcAt.sort {f:FuncId} {F:List Int→List Int} {N} (hC:SortCon E.P f F N):OrcAt E f (inG F N) :=
 ⟨hC.dfd,fun _args _h _lo _v _h' hr hlo _B _M _w args' hs hv=>in_sound hC hr hlo args' hs hv,fun _args _h _lo _v _h' hr _hlo=>inG_keep hr⟩
theorem OrcAt.cell {f q:FuncId} {m:Nat} {F} (hC:CellCon E.P f q m F):OrcAt E f (inC q m F) :=
 ⟨hC.dfd,fun _args _h _lo _v _h' hr hlo _B _M _w args' hs hv=>inC_sound hC hr hlo args' hs hv,fun _args _h _lo _v _h' hr _hlo=>inC_keep hr⟩
theorem orcE:OrcSound E:=by
 have key:∀ g k,E.orc g=some k→OrcAt E g k:=fun g k h=>by
  rw [E_orc] at h
  by_cases h0:g=52
  ·subst h0;simp at h;subst h
   exact ⟨conBld.std,fun args h lo v h' hr hlo B M w args' hs hv=>bst_sound (E:=E) conBld hr args' hs hv,fun args h lo v h' hr hlo=>bst_keep hr⟩
  by_cases h1:g=95
  ·subst h1;simp at h;subst h
   exact ⟨conPrb.dfd,fun args h lo v h' hr hlo B M w args' hs hv=>inP_sound (E:=E) (E₀:=E0) okE rfl rfl rfl rfl (fun _=>rfl) rfl rfl conPrb runs0 hr hlo args' hs hv,fun args h lo v h' hr hlo=>inP_keep hr⟩
  by_cases h2:g=116
  ·subst h2;simp at h;subst h
   exact ⟨conBld.ccd,fun args h lo v h' hr hlo B M w args' hs hv=>cpc_sound (E:=E) conBld hr args' hs hv,fun args h lo v h' hr hlo=>cpc_keep hr⟩
  by_cases h3:g=119
  ·subst h3;simp at h;subst h;exact .sca (conIt globE)
  by_cases h4:g=128
  ·subst h4;simp at h;subst h;exact .clo conCloVol
  by_cases h5:g=129
  ·subst h5;simp at h;subst h;exact .clo conCloEnt
  by_cases h6:g=133
  ·subst h6;simp at h;subst h;exact .sca (conCo globE)
  by_cases h7:g=172
  ·subst h7;simp at h;subst h;exact .sort conSort
  by_cases h8:g=173
  ·subst h8;simp at h;subst h;exact .sort conComp
  by_cases h9:g=183
  ·subst h9;simp at h;subst h;exact .sca (conIB globE)
  by_cases h10:g=185
  ·subst h10;simp at h;subst h;exact .sca (conAt globE)
  by_cases h11:g=229
  ·subst h11;simp at h;subst h;exact .cell conSpan
  simp only [h0,h1,h2,h3,h4,h5,h6,h7,h8,h9,h10,h11,if_false] at h;cases h
 exact ⟨fun g k hg args h lo r _=>(key g k hg).dfd,fun g k hg args h lo v h' hr hlo B M w args' hs hv=>(key g k hg).snd _ _ _ _ _ hr hlo _ _ _ _ hs hv,fun g k hg args h lo v h' hr hlo=>(key g k hg).keep _ _ _ _ _ hr hlo⟩
end Go.Proofs.YtplebjehcgcdeaaGreatDoor.Bm
