/-
 Chapter 19: the law about strings that Read accepts. Conditions: the string is not longer than a string can be.
-/
import Derived.Test.YtplebjehcgcdeaaGreatDoorQT25
import Derived.Test.YtplebjehcgcdeaaGreatDoorQT16
import Derived.Test.YtplebjehcgcdeaaGreatDoorQT24
import Derived.Test.YtplebjehcgcdeaaGreatDoorQT13
namespace Go.Proofs.YtplebjehcgcdeaaGreatDoor.Bm
open Go Go.RowKit
def fgt:Nat→List Nat→Slots→Slots
 | _,[],σ=>σ
 | _,_ :: _,[]=>[]
 | i,d :: k,v :: σ=>if i=d then undef :: fgt (i+1) k σ else v :: fgt (i+1) (d :: k) σ
def ascB:Nat→List Nat→Bool
 | _,[]=>true
 | i,d :: k=>decide (i≤d) && ascB (d+1) k
theorem forget_none:∀ k:List Nat,forget k []=[]
 | []=>rfl
 | d :: k=>by rw [forget_cons];exact forget_none k
theorem forget_succ:∀ (k:List Nat) (a:Value) (σ:Slots),forget (k.map (· + 1)) (a :: σ)=a :: forget k σ
 | [],_,_=>rfl
 | d :: k,a,σ=>by
  rw [List.map_cons,forget_cons,forget_cons]
  exact forget_succ k a (setS σ d undef)
theorem ascB_le:∀ {k:List Nat} {i:Nat},ascB i k=true→∀ d∈k,i≤d
 | [],_,_,_,hd=>absurd hd List.not_mem_nil
 | e :: k,i,h,d,hd=>by
  unfold ascB at h
  rw [Bool.and_eq_true,decide_eq_true_eq] at h
  rcases List.mem_cons.1 hd with rfl | hd
  ·exact h.1
  ·have:=ascB_le h.2 d hd;omega
theorem ascB_mono {k:List Nat} {i j:Nat} (h:ascB i k=true) (hj:∀ d∈k,j≤d):ascB j k=true:=by
 cases k with
 | nil=>rfl
 | cons d k =>
  unfold ascB at h ⊢
  rw [Bool.and_eq_true] at h ⊢
  exact ⟨decide_eq_true (hj d (List.mem_cons_self ..)),h.2⟩
theorem sub_map {k:List Nat} {i:Nat} (h:∀ d∈k,i+1≤d):k.map (· - i)=(k.map (· - (i+1))).map (· + 1):=by
 rw [List.map_map]
 apply List.map_congr_left
 intro d hd
 have:=h d hd
 show d-i=d-(i+1)+1
 omega
theorem fgt_eq:∀ (σ:Slots) (k:List Nat) (i:Nat),ascB i k=true→fgt i k σ=forget (k.map (· - i)) σ
 | σ,[],_,_=>by unfold fgt;rfl
 | [],d :: k,i,_=>by rw [forget_none];rfl
 | v :: σ,d :: k,i,h=>by
  have h':=h
  unfold ascB at h'
  rw [Bool.and_eq_true,decide_eq_true_eq] at h'
  unfold fgt
  by_cases e:i=d
  ·subst e
   rw [if_pos rfl,List.map_cons,forget_cons,Nat.sub_self,fgt_eq σ k (i+1) h'.2,sub_map (ascB_le h'.2)]
   exact (forget_succ _ _ _).symm
  ·have hk:∀ x∈d :: k,i+1≤x:=fun x hx=>by
    rcases List.mem_cons.1 hx with rfl | hx
    ·omega
    ·have:=ascB_le h'.2 x hx;omega
   rw [if_neg e,fgt_eq σ (d :: k) (i+1) (ascB_mono h hk),sub_map hk]
   exact (forget_succ _ _ _).symm
def forgetF (k:List Nat) (σ:Slots):Slots:=if ascB 0 k then fgt 0 k σ else forget k σ
theorem forgetF_eq (k:List Nat) (σ:Slots):forgetF k σ=forget k σ:=by
 unfold forgetF
 split
 ·rw [fgt_eq σ k 0 ‹_›]
  congr 1
  exact List.map_id' k
 ·rfl
def evLoopF:Nat→List Nat × List Nat→Body→Body
 | 0,_,_,_,_=>none
 | m+1,k,body,σ,h=>(body (forgetF k.1 σ) h).bind fun r=>match r.1 with
  | .normal=>evLoopF m k body (forgetF k.1 r.2.1) (trim h.length (forgetF k.1 r.2.1) r.2.2)
  | _=>some (r.1,(forgetF k.2 r.2.1),trim h.length (forgetF k.2 r.2.1) r.2.2)
theorem evLoopF_eq (k:List Nat × List Nat) (body:Body):∀ n,evLoopF n k body=evLoop n k body
 | 0=>rfl
 | m+1=>by
  funext σ h
  unfold evLoopF evLoop
  simp only [forgetF_eq,evLoopF_eq k body m]
  refine congrArg _ (funext fun r=>?_)
  obtain ⟨e,σ',h'⟩:=r
  cases e <;> rfl
def cR (E:Env) (T:List (FuncId × RFn)):Nat→Callee
 | 0=>fun _ _ _ _=>none
 | n+1=>fun f args h lo=>match T.lookup f with
  | some R=>retK R.res (evR E (cR E T n) (evLoopF n) lo R.body (padS args R.n) h)
  | none=>evF E n f args h lo
theorem cR_le {E:Env} {T:List (FuncId × RFn)} (hT:∀ p∈T,rfnOf E p.1=some p.2∧E.orc p.1=none):∀ n,LeC (cR E T n) (L E)
 | 0=>fun _ _ _ _ _ hr=>by cases hr
 | n+1=>fun f args h lo r hr=>by
  unfold cR at hr
  split at hr
  ·rename_i R hl
   have hm:(f,R)∈T:=by
    clear hr hT
    induction T with
    | nil=>cases hl
    | cons p T ih =>
     obtain ⟨a,b⟩:=p
     rw [List.lookup_cons] at hl
     split at hl
     ·rename_i he
      have:=eq_of_beq he
      subst this
      cases hl
      exact List.mem_cons_self ..
     ·exact List.mem_cons_of_mem _ (ih hl)
   obtain ⟨h1,h2⟩:=hT _ hm
   rw [L_fn h1 h2]
   rw [show evLoopF n=evLoop n from funext fun k=>funext fun b=>evLoopF_eq k b n] at hr
   unfold retK at *
   exact bind_le (fun a ha=>evR_le (cR_le hT n) (fun k b b' hb=>evLoop_LL n k hb) _ _ _ _ ha) (fun a b hb=>hb) hr
  ·exact evF_L n _ _ _ _ _ hr
theorem pure_byT {E:Env} {T:List (FuncId × RFn)} (hT:∀ p∈T,rfnOf E p.1=some p.2∧E.orc p.1=none) (n:Nat) {f:FuncId} {args:List Value} {v:Value} (hr:pureCall E.P (cR E T n) f args=some v):pureCall E.P (L E) f args=some v :=
 pureCall_le (cR_le hT n) hr
end Go.Proofs.YtplebjehcgcdeaaGreatDoor.Bm
namespace Go.Proofs.YtplebjehcgcdeaaGreatDoor.Bm
open Go Go.RowKit
open Dw (Vol Ent Phs Drw readF formB)
def exD (z:Int):Drw:=⟨7,[⟨[⟨2,2,4,5,0,6,0,3,false⟩],[]⟩,⟨[⟨2,2,4,5,z,9,1,0,false⟩],[([114,111,97,100,115],50)]⟩]⟩
def exP (z:Int):Value:=lst true [.agg ⟨[lst true (volR.vals [⟨2,2,4,5,0,6,0,3,false⟩]),.slice none 0 0]⟩,.agg ⟨[lst true (volR.vals [⟨2,2,4,5,z,9,1,0,false⟩]),lst true (entR.vals [([114,111,97,100,115],50)])]⟩]
def exV (z:Int):Value:=.agg ⟨[.int .i64 7,exP z]⟩
def exS:List UInt8:=[55,59,50,59,49,59,57,91,50,59,50,59,52,59,53,59,48,59,54,59,48,59,51,59,48,59,93,48,59,49,59,57,91,50,59,50,59,52,59,53,59,54,59,57,59,49,59,48,59,48,59,93,49,59,53,58,114,111,97,100,115,44,53,48,59]
def rV (a b c d:Int):Value:=.agg ⟨[.int .i64 a,.int .i64 b,.int .i64 c,.int .i64 d]⟩
def loV (i:Int) (r:Value):Value:=.agg ⟨[.int .i64 i,.int .i64 0,lst true [r],.slice none 0 0]⟩
def plV (c:Value):Value:=.agg ⟨[.slice none 0 0,.slice none 0 0,.slice none 0 0,.slice none 0 0,c,.slice none 0 0,.slice none 0 0,.int .i64 0]⟩
def capV:Value:=lst true [.agg ⟨[.string ⟨⟨[114,111,97,100,115]⟩⟩,.int .i64 0,.int .i64 0,.slice none 0 0]⟩]
def prbP:Value:=lst true [.agg ⟨[lst true (volR.vals [⟨1,1,4,3,0,6,1,0,false⟩]),.slice none 0 0]⟩]
def prbX:Value:=.agg ⟨[.int .i64 3,prbP]⟩
def rT:List (FuncId × RFn):=[(47,r47),(21,r21),(13,r13),(15,r15),(17,r17),(20,r20),(30,r30),(28,r28),(35,r35),(23,r23),(59,r59),(64,r64),(65,r65),(67,r67),(48,r48),(49,r49),(50,r50),(51,r51),(26,r26),(56,r56),(58,r58),(25,r25),(63,r63),(80,r80),(78,r78),(93,r93),(37,r37),(70,r70),(71,r71),(72,r72),(73,r73),(74,r74),(130,r130),(66,r66),(132,r132),(117,r117),(118,r118),(103,r103),(122,r122),(123,r123),(124,r124),(151,r151),(152,r152),(104,r104),(105,r105),(136,r136),(137,r137),(131,r131),(174,r174),(175,r175),(160,r160),(161,r161),(162,r162),(111,r111),(191,r191),(163,r163),(164,r164),(204,r204),(205,r205),(206,r206),(207,r207),(208,r208),(209,r209),(228,r228),(231,r231),(232,r232)]
theorem rT_ok:∀ p∈rT,rfnOf E p.1=some p.2∧E.orc p.1=none:=by
 unfold rT
 simp only [List.forall_mem_cons]
 exact ⟨⟨F47,rfl⟩,⟨F21,rfl⟩,⟨F13,rfl⟩,⟨F15,rfl⟩,⟨F17,rfl⟩,⟨F20,rfl⟩,⟨F30,rfl⟩,⟨F28,rfl⟩,⟨F35,rfl⟩,⟨F23,rfl⟩,⟨F59,rfl⟩,⟨F64,rfl⟩,⟨F65,rfl⟩,⟨F67,rfl⟩,⟨F48,rfl⟩,⟨F49,rfl⟩,⟨F50,rfl⟩,⟨F51,rfl⟩,⟨F26,rfl⟩,⟨F56,rfl⟩,⟨F58,rfl⟩,⟨F25,rfl⟩,⟨F63,rfl⟩,⟨F80,rfl⟩,⟨F78,rfl⟩,⟨F93,rfl⟩,⟨F37,rfl⟩,⟨F70,rfl⟩,⟨F71,rfl⟩,⟨F72,rfl⟩,⟨F73,rfl⟩,⟨F74,rfl⟩,⟨F130,rfl⟩,⟨F66,rfl⟩,⟨F132,rfl⟩,⟨F117,rfl⟩,⟨F118,rfl⟩,⟨F103,rfl⟩,⟨F122,rfl⟩,⟨F123,rfl⟩,⟨F124,rfl⟩,⟨F151,rfl⟩,⟨F152,rfl⟩,⟨F104,rfl⟩,⟨F105,rfl⟩,⟨F136,rfl⟩,⟨F137,rfl⟩,⟨F131,rfl⟩,⟨F174,rfl⟩,⟨F175,rfl⟩,⟨F160,rfl⟩,⟨F161,rfl⟩,⟨F162,rfl⟩,⟨F111,rfl⟩,⟨F191,rfl⟩,⟨F163,rfl⟩,⟨F164,rfl⟩,⟨F204,rfl⟩,⟨F205,rfl⟩,⟨F206,rfl⟩,⟨F207,rfl⟩,⟨F208,rfl⟩,⟨F209,rfl⟩,⟨F228,rfl⟩,⟨F231,rfl⟩,⟨F232,rfl⟩,fun p hp=>by cases hp⟩
set_option maxRecDepth 100000 in
theorem ex_6:pureCall E.P (L E) 47 [.int .i64 6]=some (exV 6):=pure_byT rT_ok 60 (by kernel_rfl)
set_option maxRecDepth 100000 in
theorem ex_5:pureCall E.P (L E) 47 [.int .i64 5]=some (exV 5):=pure_byT rT_ok 60 (by kernel_rfl)
set_option maxRecDepth 100000 in
theorem ex_form6:pureCall E.P (L E) 21 [exV 6]=some (.bool true):=pure_byT rT_ok 60 (by kernel_rfl)
set_option maxRecDepth 100000 in
theorem ex_form5:pureCall E.P (L E) 21 [exV 5]=some (.bool false):=pure_byT rT_ok 60 (by kernel_rfl)
set_option maxRecDepth 100000 in
theorem ex_bytes:pureCall E.P (L E) 13 [exV 6]=some (.tuple ⟨[.string ⟨⟨exS⟩⟩,.int .i64 0]⟩):=pure_byT rT_ok 60 (by kernel_rfl)
set_option maxRecDepth 100000 in
theorem ex_sol:pureCall E.P (L E) 15 [exV 6,.int .i64 0,.int .i64 2]=some (.tuple ⟨[lst false [.agg ⟨[.int .i64 0,.int .i64 9,lst false [rV 2 2 4 5]]⟩],.int .i64 0]⟩):=pure_byT rT_ok 60 (by kernel_rfl)
set_option maxRecDepth 100000 in
theorem ex_sol2:pureCall E.P (L E) 15 [exV 6,.int .i64 1,.int .i64 9]=some (.tuple ⟨[lst false [.agg ⟨[.int .i64 6,.int .i64 9,lst false [rV 2 2 4 5]]⟩],.int .i64 0]⟩):=pure_byT rT_ok 60 (by kernel_rfl)
set_option maxRecDepth 100000 in
theorem ex_split:pureCall E.P (L E) 17 [exV 6,.int .i64 1]=some (.tuple ⟨[.agg ⟨[.int .i64 7,lst false [.agg ⟨[lst false (volR.vals [⟨2,2,4,5,0,6,0,3,false⟩]),.slice none 0 0]⟩]]⟩,.agg ⟨[.int .i64 7,lst false [.agg ⟨[lst false (volR.vals [⟨2,2,4,5,6,9,1,0,false⟩]),lst false (entR.vals [([114,111,97,100,115],50)])]⟩]]⟩,.bool true]⟩):=pure_byT rT_ok 60 (by kernel_rfl)
set_option maxRecDepth 100000 in
theorem ex_split2:pureCall E.P (L E) 17 [exV 6,.int .i64 2]=some (.tuple ⟨[.agg ⟨[.int .i64 0,.slice none 0 0]⟩,.agg ⟨[.int .i64 0,.slice none 0 0]⟩,.bool false]⟩):=pure_byT rT_ok 60 (by kernel_rfl)
set_option maxRecDepth 100000 in
theorem ex_same:pureCall E.P (L E) 20 [drV (some false) (exD 6),exV 6]=some (.bool true):=pure_byT rT_ok 60 (by kernel_rfl)
set_option maxRecDepth 100000 in
theorem ex_same2:pureCall E.P (L E) 30 [exV 6,exV 6]=some (.bool true):=pure_byT rT_ok 60 (by kernel_rfl)
set_option maxRecDepth 100000 in
theorem ex_rv:pureCall E.P (L E) 28 [.agg ⟨volR.enc ⟨0,0,0,0,0,0,0,0,false⟩⟩]=some (.bool false):=pure_byT rT_ok 60 (by kernel_rfl)
set_option maxRecDepth 100000 in
theorem ex_probe:pureCall E.P (L E) 35 [loV 3 (rV 0 0 5 4),rV 3 1 2 1]=some (.tuple ⟨[prbX,.bool true]⟩):=pure_byT rT_ok 60 (by kernel_rfl)
set_option maxRecDepth 100000 in
theorem ex_same3:pureCall E.P (L E) 20 [prbX,prbX]=some (.bool true):=pure_byT rT_ok 60 (by kernel_rfl)
set_option maxRecDepth 100000 in
theorem ex_right:pureCall E.P (L E) 23 [plV capV,loV 7 (rV 2 2 4 5),exV 6]=some (.bool true):=pure_byT rT_ok 60 (by kernel_rfl)
set_option maxRecDepth 100000 in
theorem ex_right0:pureCall E.P (L E) 23 [plV (.slice none 0 0),loV 7 (rV 2 2 4 5),exV 6]=some (.bool false):=pure_byT rT_ok 60 (by kernel_rfl)
theorem ex_readF:readF formB exS=some (exD 6):=by kernel_rfl
theorem ex_readN:readF formB []=none:=by kernel_rfl
end Go.Proofs.YtplebjehcgcdeaaGreatDoor.Bm
namespace Go.Proofs.YtplebjehcgcdeaaGreatDoor.Bm
open Go Go.RowKit
def rB:List (FuncId × RFn):=[(93,r93),(72,r72),(70,r70),(71,r71),(151,r151),(152,r152),(136,r136),(105,r105),(37,r37),(191,r191),(78,r78),(160,r160),(161,r161),(162,r162),(163,r163),(164,r164),(103,r103),(104,r104),(204,r204),(205,r205),(206,r206),(207,r207),(208,r208),(209,r209),(228,r228),(231,r231),(232,r232)]
theorem rB_ok:∀ p∈rB,rfnOf E p.1=some p.2∧E.orc p.1=none:=by
 unfold rB
 simp only [List.forall_mem_cons]
 exact ⟨⟨F93,rfl⟩,⟨F72,rfl⟩,⟨F70,rfl⟩,⟨F71,rfl⟩,⟨F151,rfl⟩,⟨F152,rfl⟩,⟨F136,rfl⟩,⟨F105,rfl⟩,⟨F37,rfl⟩,⟨F191,rfl⟩,⟨F78,rfl⟩,⟨F160,rfl⟩,⟨F161,rfl⟩,⟨F162,rfl⟩,⟨F163,rfl⟩,⟨F164,rfl⟩,⟨F103,rfl⟩,⟨F104,rfl⟩,⟨F204,rfl⟩,⟨F205,rfl⟩,⟨F206,rfl⟩,⟨F207,rfl⟩,⟨F208,rfl⟩,⟨F209,rfl⟩,⟨F228,rfl⟩,⟨F231,rfl⟩,⟨F232,rfl⟩,fun p hp=>by cases hp⟩
set_option maxRecDepth 100000 in
theorem ex_base0:pureCall E.P (L E) 93 [loV 3 (rV 0 0 5 4),.int .i64 0]=some (.tuple ⟨[rV 0 0 5 4,.bool true]⟩):=pure_byT rB_ok 60 (by kernel_rfl)
set_option maxRecDepth 100000 in
theorem ex_base1:pureCall E.P (L E) 93 [loV 3 (rV 0 0 5 4),.int .i64 1]=some (.tuple ⟨[rV 1 1 4 3,.bool true]⟩):=pure_byT rB_ok 60 (by kernel_rfl)
set_option maxRecDepth 100000 in
theorem ex_base2:pureCall E.P (L E) 93 [loV 3 (rV 0 0 5 4),.int .i64 2]=some (.tuple ⟨[rV 0 0 0 0,.bool false]⟩):=pure_byT rB_ok 60 (by kernel_rfl)
set_option maxRecDepth 100000 in
theorem ex_base3:pureCall E.P (L E) 93 [loV 3 (rV 0 0 5 4),.int .i64 3]=some (.tuple ⟨[rV 0 0 0 0,.bool false]⟩):=pure_byT rB_ok 60 (by kernel_rfl)
set_option maxRecDepth 100000 in
theorem ex_base4:pureCall E.P (L E) 93 [loV 3 (rV 0 0 5 4),.int .i64 4]=some (.tuple ⟨[rV 0 0 0 0,.bool false]⟩):=pure_byT rB_ok 60 (by kernel_rfl)
set_option maxRecDepth 100000 in
theorem ex_base5:pureCall E.P (L E) 93 [loV 3 (rV 0 0 5 4),.int .i64 5]=some (.tuple ⟨[rV 0 0 0 0,.bool false]⟩):=pure_byT rB_ok 60 (by kernel_rfl)
set_option maxRecDepth 100000 in
theorem ex_base6:pureCall E.P (L E) 93 [loV 3 (rV 0 0 5 4),.int .i64 6]=some (.tuple ⟨[rV 0 0 0 0,.bool false]⟩):=pure_byT rB_ok 60 (by kernel_rfl)
set_option maxRecDepth 100000 in
theorem ex_base7:pureCall E.P (L E) 93 [loV 3 (rV 0 0 5 4),.int .i64 7]=some (.tuple ⟨[rV 0 0 0 0,.bool false]⟩):=pure_byT rB_ok 60 (by kernel_rfl)
set_option maxRecDepth 100000 in
theorem ex_base8:pureCall E.P (L E) 93 [loV 3 (rV 0 0 5 4),.int .i64 8]=some (.tuple ⟨[rV 0 0 0 0,.bool false]⟩):=pure_byT rB_ok 60 (by kernel_rfl)
set_option maxRecDepth 100000 in
theorem ex_base9:pureCall E.P (L E) 93 [loV 3 (rV 0 0 5 4),.int .i64 9]=some (.tuple ⟨[rV 0 0 0 0,.bool false]⟩):=pure_byT rB_ok 60 (by kernel_rfl)
set_option maxRecDepth 100000 in
theorem ex_base10:pureCall E.P (L E) 93 [loV 3 (rV 0 0 5 4),.int .i64 10]=some (.tuple ⟨[rV 0 0 0 0,.bool false]⟩):=pure_byT rB_ok 60 (by kernel_rfl)
set_option maxRecDepth 100000 in
theorem ex_base11:pureCall E.P (L E) 93 [loV 3 (rV 0 0 5 4),.int .i64 11]=some (.tuple ⟨[rV 0 0 0 0,.bool false]⟩):=pure_byT rB_ok 60 (by kernel_rfl)
set_option maxRecDepth 100000 in
theorem ex_base12:pureCall E.P (L E) 93 [loV 3 (rV 0 0 5 4),.int .i64 12]=some (.tuple ⟨[rV 0 0 0 0,.bool false]⟩):=pure_byT rB_ok 60 (by kernel_rfl)
set_option maxRecDepth 100000 in
theorem ex_base13:pureCall E.P (L E) 93 [loV 3 (rV 0 0 5 4),.int .i64 13]=some (.tuple ⟨[rV 0 0 0 0,.bool false]⟩):=pure_byT rB_ok 60 (by kernel_rfl)
set_option maxRecDepth 100000 in
theorem ex_base14:pureCall E.P (L E) 93 [loV 3 (rV 0 0 5 4),.int .i64 14]=some (.tuple ⟨[rV 0 0 0 0,.bool false]⟩):=pure_byT rB_ok 60 (by kernel_rfl)
set_option maxRecDepth 100000 in
theorem ex_base15:pureCall E.P (L E) 93 [loV 3 (rV 0 0 5 4),.int .i64 15]=some (.tuple ⟨[rV 0 0 0 0,.bool false]⟩):=pure_byT rB_ok 60 (by kernel_rfl)
set_option maxRecDepth 100000 in
theorem ex_base16:pureCall E.P (L E) 93 [loV 3 (rV 0 0 5 4),.int .i64 16]=some (.tuple ⟨[rV 0 0 0 0,.bool false]⟩):=pure_byT rB_ok 60 (by kernel_rfl)
set_option maxRecDepth 100000 in
theorem ex_base17:pureCall E.P (L E) 93 [loV 3 (rV 0 0 5 4),.int .i64 17]=some (.tuple ⟨[rV 0 0 0 0,.bool false]⟩):=pure_byT rB_ok 60 (by kernel_rfl)
set_option maxRecDepth 100000 in
theorem ex_base18:pureCall E.P (L E) 93 [loV 3 (rV 0 0 5 4),.int .i64 18]=some (.tuple ⟨[rV 0 0 0 0,.bool false]⟩):=pure_byT rB_ok 60 (by kernel_rfl)
set_option maxRecDepth 100000 in
theorem ex_base19:pureCall E.P (L E) 93 [loV 3 (rV 0 0 5 4),.int .i64 19]=some (.tuple ⟨[rV 0 0 0 0,.bool false]⟩):=pure_byT rB_ok 60 (by kernel_rfl)
set_option maxRecDepth 100000 in
theorem ex_base20:pureCall E.P (L E) 93 [loV 3 (rV 0 0 5 4),.int .i64 20]=some (.tuple ⟨[rV 0 0 0 0,.bool false]⟩):=pure_byT rB_ok 60 (by kernel_rfl)
set_option maxRecDepth 100000 in
theorem ex_area0:pureCall E.P (L E) 72 [rV 0 0 5 4]=some (.int .i64 20):=pure_byT rB_ok 60 (by kernel_rfl)
set_option maxRecDepth 100000 in
theorem ex_area1:pureCall E.P (L E) 72 [rV 1 1 4 3]=some (.int .i64 6):=pure_byT rB_ok 60 (by kernel_rfl)
end Go.Proofs.YtplebjehcgcdeaaGreatDoor.Bm
namespace Go.Proofs.YtplebjehcgcdeaaGreatDoor.Bm
open Go Go.RowKit
abbrev tQ:TypeId:=67
def prR:Rec Prb where
 enc p:=prV p
 m:=3
 len _:=rfl
 set _:=rfl
 bel _ _:=rfl
structure LotD where
 id:Int
 ow:Int
 ar:Value
 fr:Value
def LotD.val (e:LotD):List Value:=[.int .i64 e.id,.int .i64 e.ow,e.ar,e.fr]
def LotD.ok (e:LotD):Prop:=(∀ d n,below (d+1) n e.ar=true)∧(∀ d n,below (d+1) n e.fr=true)∧settled 8 (.agg ⟨e.val⟩)=true
def asetI (l:List ((Int × Int) × Int)) (k:Int × Int) (v:Int):List ((Int × Int) × Int) :=
 match l with
 | []=>[(k,v)]
 | p :: l=>if p.1=k then (k,v) :: l else p :: asetI l k v
def tabM (T:List ((Int × Int) × Int)):List ((Int × Int) × Value):=T.map fun p=>(p.1,.int .i64 p.2)
theorem tabM_set (k:Int × Int) (v:Int):∀ T,aset (tabM T) k (.int .i64 v)=tabM (asetI T k v)
 | []=>rfl
 | p :: T=>by
  have ih:=tabM_set k v T
  show (if p.1=k then _ else _)=tabM (if p.1=k then _ else _)
  by_cases h:p.1=k
  ·rw [if_pos h,if_pos h];rfl
  ·rw [if_neg h,if_neg h]
   show _ :: aset (tabM T) k _=_ :: tabM (asetI T k v)
   rw [ih]
def pairK (p:Int × Int):Value:=.agg ⟨[.int .i64 p.1,.int .i64 p.2]⟩
def memZ:List Int→Int→Bool
 | [],_=>false
 | a :: l,s=>decide (a=s) || memZ l s
def seenZ (S:List Int):List (Int × Value):=S.map fun s=>(s,.bool true)
theorem seenZ_get:∀ (S:List Int) (s:Int),aget (seenZ S) s=if memZ S s then some (.bool true) else none
 | [],_=>rfl
 | a :: S,s=>by
  have ih:=seenZ_get S s
  show (if a=s then _ else aget (seenZ S) s)=_
  rw [ih,show memZ (a :: S) s=(decide (a=s) || memZ S s) from rfl]
  by_cases h:a=s
  ·rw [if_pos h,decide_eq_true h];rfl
  ·rw [if_neg h,decide_eq_false h,Bool.false_or]
theorem seenZ_app (S:List Int) (s:Int):seenZ (S++[s])=seenZ S++[(s,.bool true)]:=List.map_append
section
variable (bok:LotD→Nat→Bool) (bAr:LotD→Nat→Int)
def prbs (id:Int) (k:Nat) (l:List Nat):List Prb:=l.map fun j=>(id,((j % 6:Nat):Int),((j / 6:Nat):Int)+1,(k:Int))
def goI (e:LotD):List Nat→List ((Int × Int) × Int) × List Prb→List ((Int × Int) × Int) × List Prb
 | [],c=>c
 | k :: l,c=>goI e l (if bok e k then (asetI c.1 (e.id,(k:Int)) (bAr e k),c.2++prbs e.id k (List.range 72)) else c)
def goL:List LotD→List Int × List ((Int × Int) × Int) × List Prb→List Int × List ((Int × Int) × Int) × List Prb
 | [],c=>c
 | e :: l,c=>goL l (if memZ c.1 e.id || decide (e.id<0) || decide (1073741824<e.id) then c else (c.1++[e.id],goI bok bAr e (List.range 21) c.2))
def prbA (l:List LotD):List Prb:=srtP (goL bok bAr l ([],[],[])).2.1 (goL bok bAr l ([],[],[])).2.2
end
theorem uI9:E.P.underlying 3=some (.int .i64):=by kernel_rfl
theorem goI_len (bok:LotD→Nat→Bool) (bAr:LotD→Nat→Int) (e:LotD):∀ (l:List Nat) c,(goI bok bAr e l c).2.length≤c.2.length+72 * l.length
 | [],c=>Nat.le_add_right _ _
 | k :: l,c=>by
  have ih:=goI_len bok bAr e l (if bok e k then (asetI c.1 (e.id,(k:Int)) (bAr e k),c.2++prbs e.id k (List.range 72)) else c)
  show (goI bok bAr e l _).2.length≤_
  rw [List.length_cons]
  split at ih
  ·rw [if_pos ‹_›]
   rw [List.length_append] at ih
   have:(prbs e.id k (List.range 72)).length=72:=by unfold prbs;rw [List.length_map,List.length_range]
   simp only [this] at ih
   refine Nat.le_trans ih ?_
   show c.2.length+72+72 * l.length≤c.2.length+72 * (l.length+1)
   omega
  ·rw [if_neg ‹_›]
   refine Nat.le_trans ih ?_
   show c.2.length+72 * l.length≤c.2.length+72 * (l.length+1)
   omega
theorem goL_len (bok:LotD→Nat→Bool) (bAr:LotD→Nat→Int):∀ (l:List LotD) c,(goL bok bAr l c).2.2.length≤c.2.2.length+1512 * l.length
 | [],c=>Nat.le_add_right _ _
 | e :: l,c=>by
  have ih:=goL_len bok bAr l (if memZ c.1 e.id || decide (e.id<0) || decide (1073741824<e.id) then c else (c.1++[e.id],goI bok bAr e (List.range 21) c.2))
  show (goL bok bAr l _).2.2.length≤_
  rw [List.length_cons]
  split at ih
  ·rw [if_pos ‹_›];omega
  ·rw [if_neg ‹_›]
   have:=goI_len bok bAr e (List.range 21) c.2
   rw [List.length_range] at this
   refine Nat.le_trans ih ?_
   show (goI bok bAr e (List.range 21) c.2).2.length+1512 * l.length≤c.2.2.length+1512 * (l.length+1)
   omega
theorem intK:KeyEnc E.P 3 (Value.int .i64):=⟨fun _=>rfl,fun _=>by simp [keyOk,uI9],fun a b=>by (simp [aKeyEq,uI9,Instr.sameNow];exact Bool.eq_iff_iff.2 (by rw [beq_iff_eq,decide_eq_true_iff])),fun _=>by simp [Instr.sameBits]⟩
theorem keq9 (a b c d:Int):aKeyEq E.P tK (.agg ⟨[.int .i64 a,.int .i64 b]⟩) (.agg ⟨[.int .i64 c,.int .i64 d]⟩)=allOf [some (a == c),some (b == d)]:=by kernel_rfl
theorem prK:KeyEnc E.P tK pairK where
 flat s:=by
  obtain ⟨a1,a2⟩:=s
  show (#[Value.int .i64 a1,Value.int .i64 a2]).all atom=true
  simp [atom]
 ok s:=by
  obtain ⟨a1,a2⟩:=s
  show keyOk E.P 4 tK (.agg ⟨[.int .i64 a1,.int .i64 a2]⟩)=true
  kernel_rfl
 eq a b:=by
  obtain ⟨a1,a2⟩:=a
  obtain ⟨b1,b2⟩:=b
  refine (keq9 a1 a2 b1 b2).trans ?_
  by_cases h1:a1=b1
  ·by_cases h2:a2=b2
   ·simp [allOf,h1,h2]
   ·have:(a2 == b2)=false:=by simpa using h2
    simp [allOf,h1,h2,this]
  ·have:(a1 == b1)=false:=by simpa using h1
   simp [allOf,h1,this]
 bits s:=by
  obtain ⟨a1,a2⟩:=s
  simp [pairK,Instr.sameBits]
theorem zQ:szOf E.P tQ=some 4:=by kernel_rfl
theorem aQ:aggT E.P tQ=some true:=by kernel_rfl
theorem lit_prb (h:Heap) (a b c d:Int):buildSliceT (some ⟨tQ,4,32,.agg ⟨[.int .i64 0,.int .i64 0,.int .i64 0,.int .i64 0]⟩,⟨some true,some 4⟩⟩) false h 1 #[(0,.agg ⟨[.int .i64 a,.int .i64 b,.int .i64 c,.int .i64 d]⟩)]=some (lst true [.agg ⟨[.int .i64 a,.int .i64 b,.int .i64 c,.int .i64 d]⟩],h) :=
 (build_lit' (n:=1) (l:=[(0,.agg ⟨[.int .i64 a,.int .i64 b,.int .i64 c,.int .i64 d]⟩)]) rfl rfl (by decide) (by decide) (by decide)).trans rfl
theorem app_prb {h:Heap} {b lo:Nat} {c:List Prb} (s:Prb) (hob:h[b]?=some (prR.row tQ c)) (hlo:lo≤b) (hc:c.length≤10000000) :
  appendT (some ⟨tQ,4,32,.agg ⟨[.int .i64 0,.int .i64 0,.int .i64 0,.int .i64 0]⟩,⟨some true,some 4⟩⟩) h lo false (prR.sl b c) (lst true [.agg ⟨[.int .i64 s.1,.int .i64 s.2.1,.int .i64 s.2.2.1,.int .i64 s.2.2.2]⟩])=some (prR.sl b (c++[s]),h.set b (prR.row tQ (c++[s]))) :=
 Rec.app (R:=prR) (m:=[s]) rfl hob (Rec.cells_tree (R:=prR) rfl [s]) hlo (by show (c.length+1) * 32≤2 ^ 47;omega)
abbrev aC:AObj:=.cells 137 [.map (some 0)] 0
abbrev lC (e:LotD):AObj:=.cells 34 e.val 0
abbrev rC4 (r:Int × Int × Int × Int):AObj:=.cells 56 [.int .i64 r.1,.int .i64 r.2.1,.int .i64 r.2.2.1,.int .i64 r.2.2.2] 0
theorem tabP_of:∀ (T:List ((Int × Int) × Int)) (i:Nat),tabP (ents pairK (tabM T) i)=some T
 | [],_=>rfl
 | ((a,b),n) :: T,i=>by
  show (tabP (ents pairK (tabM T) (i+1))).map _=_
  rw [tabP_of T (i+1)];rfl
theorem prD_of:∀ l:List Prb,prD (prR.flat l)=some l
 | []=>rfl
 | (a,b,c,d) :: l=>by
  show (prD (prR.flat l)).map _=_
  rw [prD_of l];rfl
theorem insP_len (T:List ((Int × Int) × Int)) (x:Prb):∀ l,(insP T x l).length=l.length+1
 | []=>rfl
 | y :: l=>by
  unfold insP
  split
  ·rw [List.length_cons,insP_len T x l,List.length_cons]
  ·rfl
theorem srtP_len (T:List ((Int × Int) × Int)):∀ l,(srtP T l).length=l.length
 | []=>rfl
 | x :: l=>by
  show (insP T x (srtP T l)).length=_
  rw [insP_len,srtP_len T l];rfl
theorem sort_prb {h:Heap} {lo p:Nat} {t:TypeId} {T:List ((Int × Int) × Int)} {l:List Prb} (hob:h[2]?=some (prR.row tQ l)) (hp:h[p]?=some (.cells t [.func (.func 94) ⟨[]⟩ ⟨[.pointer (some ⟨1,0,none⟩)]⟩] 0))
  (ha:h[1]?=some aC) (hm:h[0]?=some (mapB pairK (tabM T))) (hlo:lo≤2) (hl:l.length≤10000000) :
  L E 95 [prR.sl 2 l,.func (.func 96) ⟨[]⟩ ⟨[.pointer (some ⟨p,0,none⟩)]⟩] h lo=some (.tuple #[],h.set 2 (prR.row tQ (srtP T l))):=by
 rw [L_orc (g:=inP 96 94) rfl]
 unfold Rec.sl inP
 simp only [Nat.le_refl,and_true,if_true]
 by_cases h0:l.length=0
 ·have e:l=[]:=List.eq_nil_of_length_eq_zero h0
  subst e
  rw [if_pos h0]
  have:h.set 2 (prR.row tQ (srtP T []))=h:=set_same hob
  rw [this]
 ·rw [if_neg h0,hob]
  unfold inCR Rec.row
  have e1:(prR.flat l).take (l.length * 4)=prR.flat l:=List.take_of_length_le (by rw [Rec.flat_len];exact Nat.le_refl _)
  have e2:(prR.flat l).drop (l.length * 4)=[]:=List.drop_eq_nil_of_le (by rw [Rec.flat_len];exact Nat.le_refl _)
  have e3:prbF 94 (.pointer (some ⟨p,0,none⟩)) h (prR.flat l)=some (prR.flat (srtP T l)):=by
   unfold prbF
   simp only [hp,ha,hm]
   rw [if_pos ⟨trivial,by simp [plainA],by simp [plainA]⟩]
   show ((tabP (ents pairK (tabM T) 0)).bind _)=_
   rw [tabP_of]
   show (prD (prR.flat l)).map _=_
   rw [prD_of];rfl
  have e4:stampOk (some (l.length * (prR.m+1))) (prR.m+1) (prR.flat l).length=true:=by
   rw [Rec.flat_len]
   simp [stampOk]
  simp only [e1,e2,e3,Option.bind_some,List.append_nil]
  rw [if_pos ⟨hlo,e4,trivial,by rw [Rec.flat_len];exact Nat.le_refl _,by omega⟩]
theorem fmn:flat (.map none)=true:=rfl
theorem fnf:flat Value.nilFunc=true:=rfl
theorem cnf:cellsOf Value.nilFunc=some [Value.nilFunc]:=rfl
theorem cmn (o:Option Nat):cellsOf (.map o)=some [.map o]:=by cases o <;> rfl
theorem probes_pure (x:Bool) (land:List LotD) (bok:LotD→Nat→Bool) (bAr:LotD→Nat→Int) (bR:LotD→Nat→Int × Int × Int × Int)
  (hl:land.length≤1000) (hk:∀ e∈land,e.ok)
  (hb:∀ e∈land,∀ k:Nat,k<21→pureCall E.P (L E) 93 [.agg ⟨e.val⟩,.int .i64 (k:Int)]=some (.tuple ⟨[.agg ⟨[.int .i64 (bR e k).1,.int .i64 (bR e k).2.1,.int .i64 (bR e k).2.2.1,.int .i64 (bR e k).2.2.2]⟩,.bool (bok e k)]⟩))
  (ha:∀ e∈land,∀ k:Nat,k<21→bok e k=true→pureCall E.P (L E) 72 [.agg ⟨[.int .i64 (bR e k).1,.int .i64 (bR e k).2.1,.int .i64 (bR e k).2.2.1,.int .i64 (bR e k).2.2.2]⟩]=some (.int .i64 (bAr e k))) :
  ∃ w,pureCall E.P (L E) 33 [lst x (land.map fun e=>.agg ⟨e.val⟩)]=some (lst w (prR.vals (prbA bok bAr land))):=by
 have ll:∀ h,lenT .sl h (lst x (land.map fun e=>.agg ⟨e.val⟩))=some (.int .i64 land.length):=fun h=>by rw [len_lst,List.length_map]
 have il:∀ (j:Nat) (hj:j<land.length),indexAddrT (.sl 34 ⟨some true,some 4⟩) (lst x (land.map fun e=>.agg ⟨e.val⟩)) (.int .i64 (j:Int))=some (cptr (.agg ⟨land[j].val⟩)):=fun j hj=>by
  have e:(land.map fun e=>(Value.agg ⟨e.val⟩))[j]?=some (.agg ⟨land[j].val⟩):=by simp [hj]
  rw [index_lst,if_pos (by omega),show ((j:Int)).toNat=j by omega,e,Option.bind_some,if_pos]
  have:fitsTT ⟨some true,some 4⟩ (.agg ⟨land[j].val⟩)=true:=fits_ag rfl
  rw [this];rfl
 rw [pureCall_fn F33 rfl]
 unfold prbA
 generalize hVL:lst x (land.map fun e=>.agg ⟨e.val⟩)=VL at *
 simp -implicitDefEqProofs [r33,p33,prep_new,newK_nil zQ,ll,fmn,cmn]
 rw [LL_for (γ:=List Int × List ((Int × Int) × Int) × List Prb) land ([],[],[]) (fun i c=>[(3,prR.sl 2 c.2.2),(17,.int .i64 i)]) (fun i c=>[mapB pairK (tabM c.2.1),aC,prR.row tQ c.2.2,mapB (Value.int .i64) (seenZ c.1)])
  (fun i rest c=>(.exit 0,[(3,prR.sl 2 (goL bok bAr rest c).2.2),(17,undef)],[mapB pairK (tabM (goL bok bAr rest c).2.1),aC,prR.row tQ (goL bok bAr rest c).2.2,mapB (Value.int .i64) (seenZ (goL bok bAr rest c).1)]))
  (fun i c=>c.2.2.length≤1512 * i) (by omega) (by simp)]
 ·have hgl:=goL_len bok bAr land ([],[],[])
  rw [List.length_nil] at hgl
  generalize goL bok bAr land ([],[],[])=c at *
  have so:=sort_prb (h:=[mapB pairK (tabM c.2.1),aC,prR.row tQ c.2.2,mapB (Value.int .i64) (seenZ c.1),.cells 142 [.func (.func 94) ⟨[]⟩ ⟨[.pointer (some ⟨1,0,none⟩)]⟩] 0]) (lo:=0) (p:=4) rfl rfl rfl rfl (by omega) (by omega:c.2.2.length≤10000000)
  have so:L E 95 [prR.sl 2 c.2.2,.func (.func 96) #[] #[.pointer (some ⟨4,0,none⟩)]] [mapB pairK (tabM c.2.1),aC,prR.row tQ c.2.2,mapB (Value.int .i64) (seenZ c.1),.cells 142 [.func (.func 94) #[] #[.pointer (some ⟨1,0,none⟩)]] 0] 0=_:=so
  have e1:prR.sl 2 c.2.2=prR.sl 2 (srtP c.2.1 c.2.2):=by unfold Rec.sl;rw [srtP_len]
  simp -implicitDefEqProofs [k33_5,so,fnf,cnf,ret2 (E:=E) (f:=95) rfl]
  generalize srtP c.2.1 c.2.2=sl at *
  rw [e1]
  exact Or.inl (Rec.reifyR_row rfl zQ aQ)
 ·simp -implicitDefEqProofs [k33_5,Rec.sl_nil]
 ·rfl
 ·intro nx i c hi _
  have e0:goL bok bAr [] c=c:=rfl
  simp -implicitDefEqProofs [r33_5,k33_5,hi,trim_le,e0]
 ·intro nx i e rest c hi hv hd hw hI ih
  obtain ⟨S,T,O⟩:=c
  have hI:O.length≤1512 * i:=hI
  have xi:=il i hi
  rw [hv] at xi
  have hm:e∈land:=hv ▸ List.getElem_mem hi
  have hb:=hb e hm
  have ha:=ha e hm
  obtain ⟨k1,k2,hst⟩:=hk e hm
  have sg:=seenZ_get S e.id
  have hn:i+1≤1000:=by omega
  have e1:goL bok bAr (e :: rest) (S,T,O)=goL bok bAr rest (if memZ S e.id || decide (e.id<0) || decide (1073741824<e.id) then (S,T,O) else (S++[e.id],goI bok bAr e (List.range 21) (T,O))):=rfl
  rw [e1]
  have bT:∀ n T,belowO n (mapB pairK (tabM T))=true:=fun n T=>belO_map prK fun q hq=>by
   obtain ⟨s,_,rfl⟩:=List.mem_map.1 hq;rfl
  have bS:∀ n S,belowO n (mapB (Value.int .i64) (seenZ S))=true:=fun n S=>belO_map intK fun q hq=>by
   obtain ⟨s,_,rfl⟩:=List.mem_map.1 hq;rfl
  have bO:∀ n O,belowO n (prR.row tQ O)=true:=fun n O=>Rec.row_bel _
  have bA:∀ n,0<n→belowO n aC=true:=fun n h=>by show ([_]:List Value).all (below 8 n)=true;rw [List.all_cons,List.all_nil,Bool.and_true];exact decide_eq_true h
  have bs:∀ d n O,2<n→below (d+1) n (prR.sl 2 O)=true:=fun d n O h=>Rec.sl_bel h
  have bV:∀ d n,below (d+1) n VL=true:=fun d n=>by rw [← hVL];rfl
  have bm0:∀ d n,0<n→below (d+1) n (.map (some 0))=true:=fun d n h=>decide_eq_true h
  have bm3:∀ d n,3<n→below (d+1) n (.map (some 3))=true:=fun d n h=>decide_eq_true h
  obtain ⟨id,ow,ar,fr⟩:=e
  simp only [LotD.val] at *
  have bL:∀ n,belowO n (lC ⟨id,ow,ar,fr⟩)=true:=fun n=>by show ([_,_,_,_]:List Value).all (below 8 n)=true;simp only [List.all_cons,List.all_nil,k1,k2,bel_int,Bool.and_self]
  have bD:∀ n,below 8 n (.agg #[.int .i64 id,.int .i64 ow,ar,fr])=true:=fun n=>by show ([_,_,_,_]:List Value).all (below 7 n)=true;simp only [List.all_cons,List.all_nil,k1,k2,bel_int,Bool.and_self]
  have sInt:∀ k z,settled depth (.int k z)=true:=fun k z=>rfl
  have hst':settled depth (.agg #[.int .i64 id,.int .i64 ow,ar,fr])=true:=hst
  cases hs:(memZ S id || decide (id<0) || decide (1073741824<id))
  case true =>
   have ih:=ih (S,T,O) (by show O.length≤_;omega)
   rw [if_pos rfl]
   simp only at ih ⊢
   generalize goL bok bAr rest (S,T,O)=G at *
   simp -implicitDefEqProofs [k33_5] at ih
   cases hmS:memZ S id
   ·rw [hmS] at sg hs
    rw [Bool.false_or] at hs
    have lk:=fun h (hob:h[3]?=some (mapB (Value.int .i64) (seenZ S)))=>lookup_none (P:=E.P) (kt:=3) (enc:=Value.int .i64) (ok:=false) (k:=id) (zv:=.bool false) intK rfl hob sg
    by_cases h0:id<0
    ·have h0':¬ 0≤id:=by omega
     simp -implicitDefEqProofs [r33_5,k33_5,hi,xi,lk,hw,trim_cut,ih,bT,bS,bO,bA,bs,bV,bm0,bm3,h0]
    ·have h1:1073741824<id:=by simpa [h0] using hs
     have h0':0≤id:=by omega
     simp -implicitDefEqProofs [r33_5,k33_5,hi,xi,lk,hw,trim_cut,ih,bT,bS,bO,bA,bs,bV,bm0,bm3,h0,h1]
   ·rw [hmS] at sg
    have lk:=fun h (hob:h[3]?=some (mapB (Value.int .i64) (seenZ S)))=>lookup_some (P:=E.P) (kt:=3) (enc:=Value.int .i64) (ok:=false) (k:=id) (z:=some (.bool false)) intK rfl hob sg
    simp -implicitDefEqProofs [r33_5,k33_5,hi,xi,lk,hw,trim_cut,ih,bT,bS,bO,bA,bs,bV,bm0,bm3]
  case false =>
   have hgi:=goI_len bok bAr ⟨id,ow,ar,fr⟩ (List.range 21) (T,O)
   rw [List.length_range] at hgi
   have ih:=ih (S++[id],goI bok bAr ⟨id,ow,ar,fr⟩ (List.range 21) (T,O)) (by refine Nat.le_trans hgi ?_;show O.length+72 * 21≤1512 * (i+1);omega)
   rw [if_neg (by decide)]
   simp only at ih ⊢
   simp only [Bool.or_eq_false_iff,decide_eq_false_iff_not] at hs
   obtain ⟨⟨hmS,h0⟩,h1⟩:=hs
   have h0':0≤id:=by omega
   have h1':id≤1073741824:=by omega
   rw [hmS] at sg
   have lk:=fun h (hob:h[3]?=some (mapB (Value.int .i64) (seenZ S)))=>lookup_none (P:=E.P) (kt:=3) (enc:=Value.int .i64) (ok:=false) (k:=id) (zv:=.bool false) intK rfl hob sg
   have pt:=fun h (hob:h[3]?=some (mapB (Value.int .i64) (seenZ S)))=>put_map (P:=E.P) (kt:=3) (enc:=Value.int .i64) (z:=some (.bool false)) (lo:=0) (k:=id) (x:=.bool true) intK hob (Nat.zero_le _)
   rw [aset_new sg,← seenZ_app] at pt
   generalize S++[id]=S' at *
   obtain ⟨G,hG⟩:∃ G,goI bok bAr ⟨id,ow,ar,fr⟩ (List.range 21) (T,O)=G:=⟨_,rfl⟩
   rw [hG] at ih hgi ⊢
   generalize goL bok bAr rest (S',G)=GL at *
   simp -implicitDefEqProofs [k33_5] at ih
   generalize hX:nx _ _=X at ih
   simp -implicitDefEqProofs [r33_5,k33_5,hi,xi,lk,pt,h0,h1]
   rw [LL_for (γ:=List ((Int × Int) × Int) × List Prb) (List.range 21) (T,O) (fun i c=>[(3,prR.sl 2 c.2),(38,.int .i64 i)]) (fun i c=>[mapB pairK (tabM c.1),aC,prR.row tQ c.2,mapB (Value.int .i64) (seenZ S'),lC ⟨id,ow,ar,fr⟩])
    (fun i rest c=>(.exit 2,[(3,prR.sl 2 (goI bok bAr ⟨id,ow,ar,fr⟩ rest c).2),(38,undef)],[mapB pairK (tabM (goI bok bAr ⟨id,ow,ar,fr⟩ rest c).1),aC,prR.row tQ (goI bok bAr ⟨id,ow,ar,fr⟩ rest c).2,mapB (Value.int .i64) (seenZ S'),lC ⟨id,ow,ar,fr⟩]))
    (fun i c=>c.2.length≤1512000+72 * i) (by decide) (by show O.length≤_;omega)]
   ·rw [hG]
    simp -implicitDefEqProofs [k33_10,hw,trim_cut,bT,bS,bO,bA,bs,bV,bm0,bm3]
    exact hX.trans ih
   ·simp -implicitDefEqProofs [k33_10]
   ·rfl
   ·intro ny j c hj _
    have e0:goI bok bAr ⟨id,ow,ar,fr⟩ [] c=c:=rfl
    have hj:j=21:=by rw [List.length_range] at hj;exact hj
    subst hj
    simp -implicitDefEqProofs [r33_10,k33_10,trim_le,e0]
   ·intro ny j w rs c hj hvj hdj hwj hIj ihj
    have hj':j<21:=by rw [List.length_range] at hj;exact hj
    have hw2:w=j:=by rw [← hvj,List.getElem_range]
    subst hw2
    obtain ⟨T1,O1⟩:=c
    have hIj:O1.length≤1512000+72 * w:=hIj
    have hbj:=hb w hj'
    have haj:=ha w hj'
    obtain ⟨⟨r0,r1,r2,r3⟩,hR⟩:∃ r,bR ⟨id,ow,ar,fr⟩ w=r:=⟨_,rfl⟩
    rw [hR] at hbj haj
    have lj:((w:Int)<21):=by omega
    have e1:goI bok bAr ⟨id,ow,ar,fr⟩ (w :: rs) (T1,O1)=goI bok bAr ⟨id,ow,ar,fr⟩ rs (if bok ⟨id,ow,ar,fr⟩ w then (asetI T1 (id,(w:Int)) (bAr ⟨id,ow,ar,fr⟩ w),O1++prbs id w (List.range 72)) else (T1,O1)):=rfl
    rw [e1]
    cases hok:bok ⟨id,ow,ar,fr⟩ w
    ·rw [hok] at hbj
     have ihj:=ihj (T1,O1) (by show O1.length≤_;omega)
     rw [if_neg (by decide)]
     generalize goI bok bAr ⟨id,ow,ar,fr⟩ rs (T1,O1)=G1 at *
     simp -implicitDefEqProofs [k33_10] at ihj
     simp -implicitDefEqProofs [r33_10,k33_10,hwj,lj,hbj,LotD.val,ret1 m93,hst',sInt,bL,bD,trim_cut,bT,bS,bO,bA,bs,bV,bm0,bm3,-List.all_eq_true,ihj]
    ·rw [hok] at hbj
     have haj:=haj hok
     have hO:(prbs id w (List.range 72)).length=72:=by unfold prbs;rw [List.length_map,List.length_range]
     have ihj:=ihj (asetI T1 (id,(w:Int)) (bAr ⟨id,ow,ar,fr⟩ w),O1++prbs id w (List.range 72)) (by show (O1++prbs id w (List.range 72)).length≤_;rw [List.length_append,hO];omega)
     rw [if_pos rfl]
     have pt:=fun h (hob:h[0]?=some (mapB pairK (tabM T1)))=>put_map (P:=E.P) (kt:=tK) (enc:=pairK) (z:=some (.int .i64 0)) (lo:=0) (k:=(id,(w:Int))) (x:=.int .i64 (bAr ⟨id,ow,ar,fr⟩ w)) prK hob (Nat.zero_le _)
     rw [tabM_set] at pt
     generalize bAr ⟨id,ow,ar,fr⟩ w=aw at *
     generalize asetI T1 (id,(w:Int)) aw=T2 at *
     have ba2:buildT (.arr ⟨[.int .i64 0,.int .i64 0]⟩ 1) #[(0,.int .i64 id),(1,.int .i64 (w:Int))]=some (pairK (id,(w:Int))):=rfl
     have fz:flat (Value.int .i64 aw)=true:=rfl
     generalize goI bok bAr ⟨id,ow,ar,fr⟩ rs (T2,O1++prbs id w (List.range 72))=G1 at *
     simp -implicitDefEqProofs [k33_10] at ihj
     simp -implicitDefEqProofs [r33_10,k33_10,lj,hbj,haj,LotD.val,ret1 m93,hst',sInt,ret0 m72,ba2,pt]
     rw [LL_for (γ:=List Prb) (List.range 72) O1 (fun i c=>[(3,prR.sl 2 c),(56,.int .i64 i)]) (fun i c=>[mapB pairK (tabM T2),aC,prR.row tQ c,mapB (Value.int .i64) (seenZ S'),lC ⟨id,ow,ar,fr⟩,rC4 (r0,r1,r2,r3)])
      (fun i rest c=>(.exit 4,[(3,prR.sl 2 (c++prbs id w rest)),(56,undef)],[mapB pairK (tabM T2),aC,prR.row tQ (c++prbs id w rest),mapB (Value.int .i64) (seenZ S'),lC ⟨id,ow,ar,fr⟩,rC4 (r0,r1,r2,r3)]))
      (fun i c=>c.length≤1514000+i) (by decide) (by omega)]
     ·simp -implicitDefEqProofs [k33_16,hwj,bL,bD,trim_cut,bT,bS,bO,bA,bs,bV,bm0,bm3,-List.all_eq_true,ihj]
     ·simp -implicitDefEqProofs [k33_16]
     ·rfl
     ·intro nz m c hm2 _
      have hm2:m=72:=by rw [List.length_range] at hm2;exact hm2
      subst hm2
      have e0:c++prbs id w []=c:=List.append_nil _
      simp -implicitDefEqProofs [r33_16,k33_16,trim_le,e0]
     ·intro nz m v2 rs2 c hm2 hv2 hd2 hw2 hc2 ih2
      have hm3:m<72:=by rw [List.length_range] at hm2;exact hm2
      have hv3:v2=m:=by rw [← hv2,List.getElem_range]
      subst hv3
      have ih2:=ih2 (c++[(id,((v2 % 6:Nat):Int),((v2 / 6:Nat):Int)+1,(w:Int))]) (by rw [List.length_append];show c.length+1≤_;omega)
      have e0:c++prbs id w (v2 :: rs2)=(c++[(id,((v2 % 6:Nat):Int),((v2 / 6:Nat):Int)+1,(w:Int))])++prbs id w rs2:=by rw [List.append_assoc];rfl
      have ap:=fun h (hob:h[2]?=some (prR.row tQ c))=>app_prb (b:=2) (lo:=0) (id,((v2 % 6:Nat):Int),((v2 / 6:Nat):Int)+1,(w:Int)) hob (Nat.zero_le _) (by omega)
      rw [e0]
      simp only at ap
      have rm:aBin E.P .rem 3 (.int .i64 (v2:Int)) (.int .i64 6)=some (.int .i64 ((v2 % 6:Nat):Int)):=(bin_rem (by decide)).trans rfl
      have qo:aBin E.P .quo 3 (.int .i64 (v2:Int)) (.int .i64 6)=some (.int .i64 ((v2 / 6:Nat):Int)):=by rw [bin_quo (by decide),show (v2:Int).tdiv 6=((v2 / 6:Nat):Int) from rfl,wrap64 (by omega) (by omega)]
      have hd6:v2 / 6≤11:=by omega
      have hw6:IntKind.i64.wrap (((v2 / 6:Nat):Int)+1)=((v2 / 6:Nat):Int)+1:=wrap64 (by omega) (by omega)
      generalize v2 % 6=m6 at *
      generalize v2 / 6=d6 at *
      generalize c++[(id,((m6:Nat):Int),((d6:Nat):Int)+1,(w:Int))]=c2 at *
      generalize c2++prbs id w rs2=c3 at *
      simp -implicitDefEqProofs [k33_16] at ih2
      have l72:(v2:Int)<72:=by omega
      simp -implicitDefEqProofs [r33_16,k33_16,hw2,l72,LotD.val,rm,qo,hw6,bld4,lit_prb,ap,trim_le]
      exact ih2
end Go.Proofs.YtplebjehcgcdeaaGreatDoor.Bm
namespace Go.Proofs.YtplebjehcgcdeaaGreatDoor.Bm
open Go Go.RowKit
def exL:LotD:=⟨3,0,lst true [rV 0 0 5 4],.slice none 0 0⟩
def exB (k:Nat):Int × Int × Int × Int:=if k=0 then (0,0,5,4) else if k=1 then (1,1,4,3) else (0,0,0,0)
theorem ex_base:∀ k:Nat,k<21→pureCall E.P (L E) 93 [.agg ⟨exL.val⟩,.int .i64 (k:Int)]=some (.tuple ⟨[.agg ⟨[.int .i64 (exB k).1,.int .i64 (exB k).2.1,.int .i64 (exB k).2.2.1,.int .i64 (exB k).2.2.2]⟩,.bool (decide (k<2))]⟩)
 | 0,_=>ex_base0
 | 1,_=>ex_base1
 | 2,_=>ex_base2
 | 3,_=>ex_base3
 | 4,_=>ex_base4
 | 5,_=>ex_base5
 | 6,_=>ex_base6
 | 7,_=>ex_base7
 | 8,_=>ex_base8
 | 9,_=>ex_base9
 | 10,_=>ex_base10
 | 11,_=>ex_base11
 | 12,_=>ex_base12
 | 13,_=>ex_base13
 | 14,_=>ex_base14
 | 15,_=>ex_base15
 | 16,_=>ex_base16
 | 17,_=>ex_base17
 | 18,_=>ex_base18
 | 19,_=>ex_base19
 | 20,_=>ex_base20
 | k+21,h=>absurd h (by omega)
theorem ex_area:∀ k:Nat,k<21→decide (k<2)=true→pureCall E.P (L E) 72 [.agg ⟨[.int .i64 (exB k).1,.int .i64 (exB k).2.1,.int .i64 (exB k).2.2.1,.int .i64 (exB k).2.2.2]⟩]=some (.int .i64 (if k=0 then 20 else 6))
 | 0,_,_=>ex_area0
 | 1,_,_=>ex_area1
 | k+2,_,h=>absurd (of_decide_eq_true h) (by omega)
theorem ex_len:(prbA (fun _ k=>decide (k<2)) (fun _ k=>if k=0 then 20 else 6) [exL]).length=144:=by
 unfold prbA
 rw [srtP_len]
 kernel_rfl
theorem ex_probes:∃ w l,pureCall E.P (L E) 33 [lst true [loV 3 (rV 0 0 5 4)]]=some (lst w l)∧l.length=144:=by
 obtain ⟨w,h⟩:=probes_pure true [exL] (fun _ k=>decide (k<2)) (fun _ k=>if k=0 then 20 else 6) (fun _ k=>exB k) (by decide)
  (fun e he=>by rw [List.mem_singleton] at he;subst he;exact ⟨fun _ _=>rfl,fun _ _=>rfl,rfl⟩)
  (fun e he k hk=>by rw [List.mem_singleton] at he;subst he;exact ex_base k hk)
  (fun e he k hk hb=>by rw [List.mem_singleton] at he;subst he;exact ex_area k hk hb)
 exact ⟨w,_,h,by rw [Rec.vals_len];exact ex_len⟩
end Go.Proofs.YtplebjehcgcdeaaGreatDoor.Bm
namespace Go.Proofs.YtplebjehcgcdeaaGreatDoor.Bm
open Go Go.RowKit
open Dw (Vol Ent Phs Drw readF formB)
theorem lit_rc (h:Heap) (a b c d:Int):buildSliceT (some ⟨56,4,32,.agg ⟨[.int .i64 0,.int .i64 0,.int .i64 0,.int .i64 0]⟩,⟨some true,some 4⟩⟩) false h 1 #[(0,.agg ⟨[.int .i64 a,.int .i64 b,.int .i64 c,.int .i64 d]⟩)]=some (lst true [rV a b c d],h) :=
 (build_lit' (n:=1) (l:=[(0,.agg ⟨[.int .i64 a,.int .i64 b,.int .i64 c,.int .i64 d]⟩)]) rfl rfl (by decide) (by decide) (by decide)).trans rfl
theorem bLot (z:Int) (l:List Value):buildT (.fs ⟨[.int .i64 0,.int .i64 0,.slice none 0 0,.slice none 0 0]⟩ ⟨[(0,1),(1,1),(2,1),(3,1)]⟩) #[(0,.int .i64 z),(2,lst true l)]=some (.agg #[.int .i64 z,.int .i64 0,lst true l,.slice none 0 0]):=by kernel_rfl
theorem bCap:buildT (.fs ⟨[.string ⟨⟨[]⟩⟩,.int .i64 0,.int .i64 0,.slice none 0 0]⟩ ⟨[(0,1),(1,1),(2,1),(3,1)]⟩) #[(0,.string ⟨⟨[114,111,97,100,115]⟩⟩)]=some (.agg #[.string ⟨⟨[114,111,97,100,115]⟩⟩,.int .i64 0,.int .i64 0,.slice none 0 0]):=by kernel_rfl
theorem lit_cap (h:Heap):buildSliceT (some ⟨81,4,56,.agg ⟨[.string ⟨⟨[]⟩⟩,.int .i64 0,.int .i64 0,.slice none 0 0]⟩,⟨some true,some 4⟩⟩) false h 1 #[(0,.agg #[.string ⟨⟨[114,111,97,100,115]⟩⟩,.int .i64 0,.int .i64 0,.slice none 0 0])]=some (capV,h) :=
 (build_lit' (n:=1) (l:=[(0,.agg ⟨[.string ⟨⟨[114,111,97,100,115]⟩⟩,.int .i64 0,.int .i64 0,.slice none 0 0]⟩)]) rfl rfl (by decide) (by decide) (by decide)).trans rfl
theorem bPl1:buildT (.fs ⟨[.slice none 0 0,.slice none 0 0,.slice none 0 0,.slice none 0 0,.slice none 0 0,.slice none 0 0,.slice none 0 0,.int .i64 0]⟩ ⟨[(0,1),(1,1),(2,1),(3,1),(4,1),(5,1),(6,1),(7,1)]⟩) #[(4,capV)]=some (.agg #[.slice none 0 0,.slice none 0 0,.slice none 0 0,.slice none 0 0,capV,.slice none 0 0,.slice none 0 0,.int .i64 0]):=by kernel_rfl
theorem bPl0:buildT (.fs ⟨[.slice none 0 0,.slice none 0 0,.slice none 0 0,.slice none 0 0,.slice none 0 0,.slice none 0 0,.slice none 0 0,.int .i64 0]⟩ ⟨[(0,1),(1,1),(2,1),(3,1),(4,1),(5,1),(6,1),(7,1)]⟩) #[]=some (.agg #[.slice none 0 0,.slice none 0 0,.slice none 0 0,.slice none 0 0,.slice none 0 0,.slice none 0 0,.slice none 0 0,.int .i64 0]):=by kernel_rfl
theorem bVo0:buildT (.fs ⟨[.int .i64 0,.int .i64 0,.int .i64 0,.int .i64 0,.int .i64 0,.int .i64 0,.int .i64 0,.int .i64 0,.bool false]⟩ ⟨[(0,6),(6,1),(7,1),(8,1)]⟩) #[]=some (.agg #[.int .i64 0,.int .i64 0,.int .i64 0,.int .i64 0,.int .i64 0,.int .i64 0,.int .i64 0,.int .i64 0,.bool false]):=by kernel_rfl
theorem bVo1:buildT (.fs ⟨[.int .i64 0,.int .i64 0,.int .i64 0,.int .i64 0,.int .i64 0,.int .i64 0,.int .i64 0,.int .i64 0,.bool false]⟩ ⟨[(0,6),(6,1),(7,1),(8,1)]⟩) #[(0,.agg #[.int .i64 1,.int .i64 1,.int .i64 4,.int .i64 3,.int .i64 0,.int .i64 6]),(1,.int .i64 1)]=some (.agg #[.int .i64 1,.int .i64 1,.int .i64 4,.int .i64 3,.int .i64 0,.int .i64 6,.int .i64 1,.int .i64 0,.bool false]):=by kernel_rfl
theorem lit_v1 (h:Heap):buildSliceT (some ⟨60,9,72,.agg ⟨[.int .i64 0,.int .i64 0,.int .i64 0,.int .i64 0,.int .i64 0,.int .i64 0,.int .i64 0,.int .i64 0,.bool false]⟩,⟨some true,some 9⟩⟩) false h 1 #[(0,.agg #[.int .i64 1,.int .i64 1,.int .i64 4,.int .i64 3,.int .i64 0,.int .i64 6,.int .i64 1,.int .i64 0,.bool false])]=some (lst true [.agg #[.int .i64 1,.int .i64 1,.int .i64 4,.int .i64 3,.int .i64 0,.int .i64 6,.int .i64 1,.int .i64 0,.bool false]],h) :=
 (build_lit' (n:=1) (l:=[(0,.agg #[.int .i64 1,.int .i64 1,.int .i64 4,.int .i64 3,.int .i64 0,.int .i64 6,.int .i64 1,.int .i64 0,.bool false])]) rfl rfl (by decide) (by decide) (by decide)).trans rfl
theorem bPh:buildT (.fs ⟨[.slice none 0 0,.slice none 0 0]⟩ ⟨[(0,1),(1,1)]⟩) #[(0,lst true [.agg #[.int .i64 1,.int .i64 1,.int .i64 4,.int .i64 3,.int .i64 0,.int .i64 6,.int .i64 1,.int .i64 0,.bool false]])]=some (.agg #[lst true [.agg #[.int .i64 1,.int .i64 1,.int .i64 4,.int .i64 3,.int .i64 0,.int .i64 6,.int .i64 1,.int .i64 0,.bool false]],.slice none 0 0]):=by kernel_rfl
theorem lit_p1 (h:Heap):buildSliceT (some ⟨78,2,48,.agg ⟨[.slice none 0 0,.slice none 0 0]⟩,⟨some true,some 2⟩⟩) false h 1 #[(0,.agg #[lst true [.agg #[.int .i64 1,.int .i64 1,.int .i64 4,.int .i64 3,.int .i64 0,.int .i64 6,.int .i64 1,.int .i64 0,.bool false]],.slice none 0 0])]=some (lst true [.agg #[lst true [.agg #[.int .i64 1,.int .i64 1,.int .i64 4,.int .i64 3,.int .i64 0,.int .i64 6,.int .i64 1,.int .i64 0,.bool false]],.slice none 0 0]],h) :=
 (build_lit' (n:=1) (l:=[(0,.agg ⟨[lst true [.agg #[.int .i64 1,.int .i64 1,.int .i64 4,.int .i64 3,.int .i64 0,.int .i64 6,.int .i64 1,.int .i64 0,.bool false]],.slice none 0 0]⟩)]) rfl rfl (by decide) (by decide) (by decide)).trans rfl
theorem bDr:buildT (.fs ⟨[.int .i64 0,.slice none 0 0]⟩ ⟨[(0,1),(1,1)]⟩) #[(0,.int .i64 3),(1,lst true [.agg #[lst true [.agg #[.int .i64 1,.int .i64 1,.int .i64 4,.int .i64 3,.int .i64 0,.int .i64 6,.int .i64 1,.int .i64 0,.bool false]],.slice none 0 0]])]=some (.agg #[.int .i64 3,prbP]):=by kernel_rfl
theorem lit_l1 (h:Heap):buildSliceT (some ⟨34,4,64,.agg ⟨[.int .i64 0,.int .i64 0,.slice none 0 0,.slice none 0 0]⟩,⟨some true,some 4⟩⟩) false h 1 #[(0,.agg #[.int .i64 3,.int .i64 0,lst true [rV 0 0 5 4],.slice none 0 0])]=some (lst true [.agg #[.int .i64 3,.int .i64 0,lst true [rV 0 0 5 4],.slice none 0 0]],h) :=
 (build_lit' (n:=1) (l:=[(0,.agg ⟨[.int .i64 3,.int .i64 0,lst true [rV 0 0 5 4],.slice none 0 0]⟩)]) rfl rfl (by decide) (by decide) (by decide)).trans rfl
theorem small_pure:pureCall E.P (L E) 11 []=some (.bool true):=by
 have e6:pureCall E.P (L E) 47 [.int .i64 6]=some (.agg #[.int .i64 7,exP 6]):=ex_6
 have e5:pureCall E.P (L E) 47 [.int .i64 5]=some (.agg #[.int .i64 7,exP 5]):=ex_5
 have f6:pureCall E.P (L E) 21 [.agg #[.int .i64 7,exP 6]]=some (.bool true):=ex_form6
 have f5:pureCall E.P (L E) 21 [.agg #[.int .i64 7,exP 5]]=some (.bool false):=ex_form5
 have b6:pureCall E.P (L E) 13 [.agg #[.int .i64 7,exP 6]]=some (.tuple #[.string ⟨⟨exS⟩⟩,.int .i64 0]):=ex_bytes
 have so1:pureCall E.P (L E) 15 [.agg #[.int .i64 7,exP 6],.int .i64 0,.int .i64 2]=some (.tuple #[lst false [.agg #[.int .i64 0,.int .i64 9,lst false [rV 2 2 4 5]]],.int .i64 0]):=ex_sol
 have so2:pureCall E.P (L E) 15 [.agg #[.int .i64 7,exP 6],.int .i64 1,.int .i64 9]=some (.tuple #[lst false [.agg #[.int .i64 6,.int .i64 9,lst false [rV 2 2 4 5]]],.int .i64 0]):=ex_sol2
 have sp1:pureCall E.P (L E) 17 [.agg #[.int .i64 7,exP 6],.int .i64 1]=some (.tuple #[.agg #[.int .i64 7,lst false [.agg #[lst false (volR.vals [⟨2,2,4,5,0,6,0,3,false⟩]),.slice none 0 0]]],.agg #[.int .i64 7,lst false [.agg #[lst false (volR.vals [⟨2,2,4,5,6,9,1,0,false⟩]),lst false (entR.vals [([114,111,97,100,115],50)])]]],.bool true]):=ex_split
 have sp2:pureCall E.P (L E) 17 [.agg #[.int .i64 7,exP 6],.int .i64 2]=some (.tuple #[.agg #[.int .i64 0,.slice none 0 0],.agg #[.int .i64 0,.slice none 0 0],.bool false]):=ex_split2
 have sm1:pureCall E.P (L E) 20 [.agg #[.int .i64 7,phR.o (some false) (exD 6).phs],.agg #[.int .i64 7,exP 6]]=some (.bool true):=ex_same
 have sm2:pureCall E.P (L E) 30 [.agg #[.int .i64 7,exP 6],.agg #[.int .i64 7,exP 6]]=some (.bool true):=ex_same2
 have rv:pureCall E.P (L E) 28 [.agg #[.int .i64 0,.int .i64 0,.int .i64 0,.int .i64 0,.int .i64 0,.int .i64 0,.int .i64 0,.int .i64 0,.bool false]]=some (.bool false):=ex_rv
 have pr:pureCall E.P (L E) 35 [.agg #[.int .i64 3,.int .i64 0,lst true [rV 0 0 5 4],.slice none 0 0],.agg #[.int .i64 3,.int .i64 1,.int .i64 2,.int .i64 1]]=some (.tuple #[.agg #[.int .i64 3,prbP],.bool true]):=ex_probe
 have sm3:pureCall E.P (L E) 20 [.agg #[.int .i64 3,prbP],.agg #[.int .i64 3,prbP]]=some (.bool true):=ex_same3
 have ri:pureCall E.P (L E) 23 [.agg #[.slice none 0 0,.slice none 0 0,.slice none 0 0,.slice none 0 0,capV,.slice none 0 0,.slice none 0 0,.int .i64 0],.agg #[.int .i64 7,.int .i64 0,lst true [rV 2 2 4 5],.slice none 0 0],.agg #[.int .i64 7,exP 6]]=some (.bool true):=ex_right
 have ri0:pureCall E.P (L E) 23 [.agg #[.slice none 0 0,.slice none 0 0,.slice none 0 0,.slice none 0 0,.slice none 0 0,.slice none 0 0,.slice none 0 0,.int .i64 0],.agg #[.int .i64 7,.int .i64 0,lst true [rV 2 2 4 5],.slice none 0 0],.agg #[.int .i64 7,exP 6]]=some (.bool false):=ex_right0
 have rd:=read_pure exS (by decide)
 rw [ex_readF] at rd
 have rd:pureCall E.P (L E) 31 [.string ⟨⟨exS⟩⟩]=some (.tuple #[.agg #[.int .i64 7,phR.o (some false) (exD 6).phs],.int .i64 0]):=rd
 have rd0:=read_pure [] (by decide)
 rw [ex_readN] at rd0
 have rd0:pureCall E.P (L E) 31 [.string ⟨⟨[]⟩⟩]=some (.tuple #[.agg #[.int .i64 0,.slice none 0 0],.int .i64 2]):=rd0
 obtain ⟨w,pl,pb,pn⟩:=ex_probes
 have pb:pureCall E.P (L E) 33 [lst true [.agg #[.int .i64 3,.int .i64 0,lst true [rV 0 0 5 4],.slice none 0 0]]]=some (lst w pl):=pb
 rw [pureCall_fn F11 rfl]
 have hS:exS=[55,59,50,59,49,59,57,91,50,59,50,59,52,59,53,59,48,59,54,59,48,59,51,59,48,59,93,48,59,49,59,57,91,50,59,50,59,52,59,53,59,54,59,57,59,49,59,48,59,48,59,93,49,59,53,58,114,111,97,100,115,44,53,48,59]:=rfl
 have g6:settled 6 (exP 6)=true∧settled 7 (exP 6)=true∧settled 8 (exP 6)=true:=⟨rfl,rfl,rfl⟩
 have s6:settled depth (.agg #[.int .i64 7,exP 6])=true:=rfl
 have r6:∀ h,reify E.P 8 h (.agg #[.int .i64 7,exP 6])=some (.agg #[.int .i64 7,exP 6]):=fun h=>rfl
 have r5:∀ h,reify E.P 8 h (.agg #[.int .i64 7,exP 5])=some (.agg #[.int .i64 7,exP 5]):=fun h=>rfl
 have rD:∀ h,reify E.P 8 h (.agg #[.int .i64 7,phR.o (some false) (exD 6).phs])=some (.agg #[.int .i64 7,phR.o (some false) (exD 6).phs]):=fun h=>rfl
 have rp:∀ h,reify E.P 8 h (.agg #[.int .i64 3,prbP])=some (.agg #[.int .i64 3,prbP]):=fun h=>rfl
 have sL3:settled depth (.agg #[.int .i64 3,.int .i64 0,lst true [rV 0 0 5 4],.slice none 0 0])=true:=rfl
 have sP3:settled depth (.agg #[.int .i64 3,.int .i64 1,.int .i64 2,.int .i64 1])=true:=rfl
 have bD:=bDr
 have sLs:settled depth (lst true [.agg #[.int .i64 3,.int .i64 0,lst true [rV 0 0 5 4],.slice none 0 0]])=true:=rfl
 have lnP:∀ h,lenT .sl h (lst w pl)=some (.int .i64 144):=fun h=>by rw [len_lst,pn];rfl
 have rP1:∀ h,reify E.P 8 h (.agg #[.slice none 0 0,.slice none 0 0,.slice none 0 0,.slice none 0 0,capV,.slice none 0 0,.slice none 0 0,.int .i64 0])=some (.agg #[.slice none 0 0,.slice none 0 0,.slice none 0 0,.slice none 0 0,capV,.slice none 0 0,.slice none 0 0,.int .i64 0]):=fun h=>rfl
 have rP0:∀ h,reify E.P 8 h (.agg #[.slice none 0 0,.slice none 0 0,.slice none 0 0,.slice none 0 0,.slice none 0 0,.slice none 0 0,.slice none 0 0,.int .i64 0])=some (.agg #[.slice none 0 0,.slice none 0 0,.slice none 0 0,.slice none 0 0,.slice none 0 0,.slice none 0 0,.slice none 0 0,.int .i64 0]):=fun h=>rfl
 have rL7:∀ h,reify E.P 8 h (.agg #[.int .i64 7,.int .i64 0,lst true [rV 2 2 4 5],.slice none 0 0])=some (.agg #[.int .i64 7,.int .i64 0,lst true [rV 2 2 4 5],.slice none 0 0]):=fun h=>rfl
 have rV9:∀ h,reify E.P 8 h (.agg #[.int .i64 0,.int .i64 0,.int .i64 0,.int .i64 0,.int .i64 0,.int .i64 0,.int .i64 0,.int .i64 0,.bool false])=some (.agg #[.int .i64 0,.int .i64 0,.int .i64 0,.int .i64 0,.int .i64 0,.int .i64 0,.int .i64 0,.int .i64 0,.bool false]):=fun h=>rfl
 have sI:∀ k z,settled depth (.int k z)=true:=fun k z=>rfl
 have sS:∀ z,settled depth (.string z)=true:=fun z=>rfl
 generalize exP 6=P6 at *
 generalize exP 5=P5 at *
 generalize phR.o (some false) (exD 6).phs=D6 at *
 generalize prbP=PB at *
 rw [hS] at rd b6
 clear hS
 simp -implicitDefEqProofs [r11,p11,ret1 m47,e6,sI,sS,ret0 m13,b6,r6,-reify_agg,ret1 m31,rd,rd0,ret1 m15,s6,so1,so2,ret1 m17,sp1,sp2,bld4,lit_rc,bLot,bCap,lit_cap,bPl1,bPl0,bVo0,bVo1,ret0 m21,f6,f5,e5,r5,ret0 m20,sm1,rD,ret1 m35,pr,sL3,sP3,bld6,lit_v1,bPh,lit_p1,bD,lit_l1,sm3,rp,ret1 m33,sLs,pb,lnP,ret0 m23,rP1,rP0,rL7,ri,ri0,ret0 m30,sm2,ret0 m28,rv,rV9]
end Go.Proofs.YtplebjehcgcdeaaGreatDoor.Bm
namespace Go.Proofs.YtplebjehcgcdeaaGreatDoor.Bm
open Go Go.RowKit
open Dw (Vol Ent Phs Drw readF formB)
end Go.Proofs.YtplebjehcgcdeaaGreatDoor.Bm
