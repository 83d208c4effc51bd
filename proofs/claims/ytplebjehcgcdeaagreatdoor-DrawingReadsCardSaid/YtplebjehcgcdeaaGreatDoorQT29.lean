/-
 Chapter 19: the law that Read returns what the reference returns. Conditions: the string is not longer than a string can be.
-/
import Derived.Test.YtplebjehcgcdeaaGreatDoorQT27
import Derived.Test.YtplebjehcgcdeaaGreatDoorQT28
import Derived.Test.YtplebjehcgcdeaaGreatDoorQT25
import Derived.Test.YtplebjehcgcdeaaGreatDoorQT26
namespace Go.Proofs.YtplebjehcgcdeaaGreatDoor.Bm
open Go Go.RowKit
open Dw (RS Vol Ent Phs Drw numS textS textR volsR givesR phaseR phsR numsR okNums volOf formB)
theorem textR_len (s:RS):(textR s).2.1.length≤s.1.length:=by
 unfold textR
 split
 ·exact Nat.zero_le _
 ·exact textS_len s
theorem textR_out (s:RS):(textR s).1.length≤s.1.length:=by
 unfold textR
 split
 ·exact Nat.zero_le _
 ·exact textS_out s
theorem volR_len (s:RS):(Dw.volR s).2.1.length≤s.1.length:=by
 have:=numsR_len s
 unfold Dw.volR
 simp only
 split <;> exact this
theorem volsR_out:∀ (n:Nat) (s:RS) (out:List Vol),(volsR n s out).1.length≤out.length+n∧(volsR n s out).2.1.length≤s.1.length
 | 0,s,out=>⟨Nat.le_refl _,Nat.le_refl _⟩
 | n+1,s,out=>by
  unfold volsR
  split
  ·exact ⟨by simp only;omega,Nat.le_refl _⟩
  ·obtain ⟨h1,h2⟩:=volsR_out n (Dw.volR s).2 (out++[(Dw.volR s).1])
   have h3:=volR_len s
   rw [List.length_append,List.length_singleton] at h1
   exact ⟨by omega,by omega⟩
theorem givesR_out {B:Nat}:∀ (n:Nat) (s:RS) (out:List Ent),s.1.length≤B→(∀ e∈out,e.1.length≤B)→(givesR n s out).1.length≤out.length+n∧(∀ e∈(givesR n s out).1,e.1.length≤B)∧(givesR n s out).2.1.length≤s.1.length
 | 0,s,out,_,ho=>⟨Nat.le_refl _,ho,Nat.le_refl _⟩
 | n+1,s,out,hs,ho=>by
  unfold givesR
  split
  ·exact ⟨by simp only;omega,ho,Nat.le_refl _⟩
  ·have h1:=textR_len s
   have h2:=numS_len (e:=59) (least:=0) (textR s).2
   obtain ⟨a,b,c⟩:=givesR_out (B:=B) n (numS 59 0 (textR s).2).2 (out++[((textR s).1,(numS 59 0 (textR s).2).1)]) (by omega) (by
    intro e he
    rcases List.mem_append.1 he with q | q
    ·exact ho e q
    ·rw [List.mem_singleton.1 q]
     have:=textR_out s
     simp only;omega)
   rw [List.length_append,List.length_singleton] at a
   exact ⟨by omega,b,by omega⟩
def OkQ (B:Nat) (p:Phs):Prop:=p.vols.length≤41∧p.gives.length≤31∧∀ e∈p.gives,e.1.length≤B
theorem phaseR_out {B:Nat} {s:RS} (hs:s.1.length≤B):OkQ B (phaseR s).1∧(phaseR s).2.1.length≤s.1.length:=by
 unfold phaseR OkQ
 simp only
 have h1:=numS_len (e:=59) (least:=0) s
 obtain ⟨h2,h3⟩:=volsR_out (min (numS 59 0 s).1.toNat 41) (numS 59 0 s).2 []
 simp only [List.length_nil,Nat.zero_add] at h2
 have h5:=numS_len (e:=59) (least:=0) (volsR (min (numS 59 0 s).1.toNat 41) (numS 59 0 s).2 []).2
 obtain ⟨a,b,c⟩:=givesR_out (B:=B) (min (numS 59 0 (volsR (min (numS 59 0 s).1.toNat 41) (numS 59 0 s).2 []).2).1.toNat 31) (numS 59 0 (volsR (min (numS 59 0 s).1.toNat 41) (numS 59 0 s).2 []).2).2 [] (by omega) (by simp)
 simp only [List.length_nil,Nat.zero_add] at a
 exact ⟨⟨by omega,by omega,b⟩,by omega⟩
theorem phsR_out {B:Nat}:∀ (n:Nat) (s:RS) (out:List Phs),s.1.length≤B→(∀ p∈out,OkQ B p)→(phsR n s out).1.length≤out.length+n∧∀ p∈(phsR n s out).1,OkQ B p
 | 0,s,out,_,ho=>⟨Nat.le_refl _,ho⟩
 | n+1,s,out,hs,ho=>by
  unfold phsR
  split
  ·exact ⟨by simp only;omega,ho⟩
  ·obtain ⟨h1,h2⟩:=phaseR_out (B:=B) hs
   obtain ⟨a,b⟩:=phsR_out (B:=B) n (phaseR s).2 (out++[(phaseR s).1]) (by omega) (by
    intro e he
    rcases List.mem_append.1 he with q | q
    ·exact ho e q
    ·rw [List.mem_singleton.1 q];exact h1)
   rw [List.length_append,List.length_singleton] at a
   exact ⟨by omega,b⟩
theorem flatQ_bound {B:Nat}:∀ {l:List Phs},(∀ p∈l,OkQ B p)→(l.flatMap Phs.vols).length≤41 * l.length
 | [],_=>Nat.le_refl _
 | p :: r,h=>by
  rw [List.flatMap_cons,List.length_append,List.length_cons]
  have h1:=(h p (by simp)).1
  have h2:=flatQ_bound (l:=r) fun q hq=>h q (List.mem_cons_of_mem _ hq)
  omega
def DQ (lot:Int) (s:RS) (ps:List Phs):Heap:=[nilD,rdC tRq s,.cells tD [.int .i64 lot,phR.sl 3 ps] 0,phR.row tP ps]
def RG (lot:Int) (s:RS) (ps:List Phs) (c:List Value) (v:List Vol) (e:List Ent):Heap:=[nilD,rdC tRq s,.cells tD [.int .i64 lot,phR.sl 3 ps] 0,phR.row tP ps,.cells tP c 0,volR.row tV v,entR.row tE e]
def pqC (v:List Vol) (e:List Ent):List Value:=[volR.sl 5 v,entR.sl 6 e]
abbrev RQ (lot:Int) (s:RS) (ps:List Phs) (v:List Vol) (e:List Ent):Heap:=RG lot s ps (pqC v e) v e
section
variable {lot:Int} {s:RS} {ps:List Phs} {v:List Vol} {e:List Ent} {c:List Value}
theorem DQ_len:(DQ lot s ps).length=4:=rfl
theorem RG_len:(RG lot s ps c v e).length=7:=rfl
theorem bel_D:belowO 4 (.cells tD [.int .i64 lot,phR.sl 3 ps] 0)=true:=by
 have h1:below 8 4 (phR.sl 3 ps)=true:=Rec.sl_bel (by omega)
 show ([_,_]:List Value).all (below 8 _)=true
 simp only [List.all_cons,List.all_nil,h1,bel_int,Bool.and_self]
theorem DQ_all:(DQ lot s ps).all (belowO (DQ lot s ps).length)=true:=by
 show ([_,_,_,_]:Heap).all (belowO 4)=true
 simp only [List.all_cons,List.all_nil,bel_D,Rec.row_bel,Bool.and_true]
 rfl
theorem bel_P:belowO 7 (.cells tP (pqC v e) 0)=true:=by
 have h1:below 8 7 (volR.sl 5 v)=true:=Rec.sl_bel (by omega)
 have h2:below 8 7 (entR.sl 6 e)=true:=Rec.sl_bel (by omega)
 show ([_,_]:List Value).all (below 8 _)=true
 simp only [List.all_cons,List.all_nil,h1,h2,Bool.and_self]
theorem RQ_all:(RQ lot s ps v e).all (belowO (RQ lot s ps v e).length)=true:=by
 have h1:belowO 7 (.cells tD [.int .i64 lot,phR.sl 3 ps] 0)=true:=belO_mono (by omega) bel_D
 show ([_,_,_,_,_,_,_]:Heap).all (belowO 7)=true
 simp only [List.all_cons,List.all_nil,h1,bel_P,Rec.row_bel,Bool.and_true]
 rfl
theorem DQ_new (σ:Slots):newcK E.P 0 [nilD,rdC tRq s,.cells tD [.int .i64 lot,.slice none 0 0] 0] σ 1 tP (.pointer (some ⟨2,0,none⟩))=some (σ,DQ lot s []):=by
 have:=newcK_cell (P:=E.P) (σ:=σ) (lo:=0) (t:=tP) (d:=1) (off:=0) (n:=1) (sp:=none) (b:=2) (g:=0) (ty:=tD) (h:=[nilD,rdC tRq s,.cells tD [.int .i64 lot,.slice none 0 0] 0]) (c:=[.int .i64 lot,.slice none 0 0]) rfl rfl sPhs (Nat.zero_le _)
 rw [this];rfl
theorem RQ_st0:storeT (some 2) (DQ lot s ps++[nilP]) 0 (.agg ⟨[.slice none 0 0,.slice none 0 0]⟩) (.pointer (some ⟨4,0,none⟩))=some (DQ lot s ps++[nilP]) :=
 snoc_put (g:=DQ lot s ps) (lo:=0) (t:=tP) (n:=2) (c:=[.slice none 0 0,.slice none 0 0]) (d:=[.slice none 0 0,.slice none 0 0]) rfl rfl (by decide) (Nat.zero_le _)
theorem RQ_new1 (σ:Slots):newcK E.P 0 (DQ lot s ps++[nilP]) σ 0 tV (.pointer (some ⟨4,0,none⟩))=some (σ,DQ lot s ps++[.cells tP [volR.sl 5 [],.slice none 0 0] 0,volR.row tV []]):=by
 have:=newcK_cell (P:=E.P) (σ:=σ) (lo:=0) (t:=tV) (d:=0) (off:=0) (n:=8) (sp:=none) (b:=4) (g:=0) (ty:=tP) (h:=DQ lot s ps++[nilP]) (c:=[.slice none 0 0,.slice none 0 0]) rfl rfl sVol (Nat.zero_le _)
 rw [this];rfl
theorem RQ_new2 (σ:Slots):newcK E.P 0 (DQ lot s ps++[.cells tP [volR.sl 5 [],.slice none 0 0] 0,volR.row tV []]) σ 1 tE (.pointer (some ⟨4,0,none⟩))=some (σ,RQ lot s ps [] []):=by
 have:=newcK_cell (P:=E.P) (σ:=σ) (lo:=0) (t:=tE) (d:=1) (off:=0) (n:=1) (sp:=none) (b:=4) (g:=0) (ty:=tP) (h:=DQ lot s ps++[.cells tP [volR.sl 5 [],.slice none 0 0] 0,volR.row tV []]) (c:=[volR.sl 5 [],.slice none 0 0]) rfl rfl sEnt (Nat.zero_le _)
 rw [this];rfl
theorem RQ_ldV {sz:Option Nat}:loadT ⟨some false,sz⟩ (RQ lot s ps v e) (.pointer (some ⟨4,0,none⟩))=some (volR.sl 5 v):=obj_load (j:=0) (t:=tP) (c:=pqC v e) rfl rfl
theorem RQ_ldE {sz:Option Nat}:loadT ⟨some false,sz⟩ (RQ lot s ps v e) (.pointer (some ⟨4,1,none⟩))=some (entR.sl 6 e):=obj_load (j:=1) (t:=tP) (c:=pqC v e) rfl rfl
theorem RQ_appV (x:Vol) (hv:v.length≤1000):appendT (some elV) (RG lot s ps c v e) 0 false (volR.sl 5 v) (lst true (volR.vals [x]))=some (volR.sl 5 (v++[x]),RG lot s ps c (v++[x]) e):=by
 have:=Rec.app (R:=volR) (m:=[x]) (lo:=0) (h:=RG lot s ps c v e) (b:=5) (acc:=v) (t:=tV) (u:=lst true (volR.vals [x])) (el:=elV) rfl rfl (Rec.cells_tree (R:=volR) rfl [x]) (Nat.zero_le _) (by show (v.length+1) * 72≤2 ^ 47;omega)
 rw [this];rfl
theorem RQ_stV {v':List Vol}:storeT (some 1) (RG lot s ps (pqC v e) v' e) 0 (volR.sl 5 v') (.pointer (some ⟨4,0,none⟩))=some (RQ lot s ps v' e):=by
 have:=obj_store (h:=RG lot s ps (pqC v e) v' e) (b:=4) (j:=0) (lo:=0) (t:=tP) (c:=pqC v e) (v:=volR.sl 5 v') rfl (by simp [pqC]) (Nat.zero_le _) rfl
 unfold cAt at this
 rw [this];rfl
abbrev elE:El:=⟨tE,2,24,.agg ⟨[.string ⟨⟨[]⟩⟩,.int .i64 0]⟩,⟨some true,some 2⟩⟩
theorem RQ_appE (x:Ent) (he:e.length≤1000):appendT (some elE) (RG lot s ps c v e) 0 false (entR.sl 6 e) (lst true (entR.vals [x]))=some (entR.sl 6 (e++[x]),RG lot s ps c v (e++[x])):=by
 have:=Rec.app (R:=entR) (m:=[x]) (lo:=0) (h:=RG lot s ps c v e) (b:=6) (acc:=e) (t:=tE) (u:=lst true (entR.vals [x])) (el:=elE) rfl rfl (Rec.cells_tree (R:=entR) rfl [x]) (Nat.zero_le _) (by show (e.length+1) * 24≤2 ^ 47;omega)
 rw [this];rfl
theorem RQ_stE {e':List Ent}:storeT (some 1) (RG lot s ps (pqC v e) v e') 0 (entR.sl 6 e') (.pointer (some ⟨4,1,none⟩))=some (RQ lot s ps v e'):=by
 have:=obj_store (h:=RG lot s ps (pqC v e) v e') (b:=4) (j:=1) (lo:=0) (t:=tP) (c:=pqC v e) (v:=entR.sl 6 e') rfl (by simp [pqC]) (Nat.zero_le _) rfl
 unfold cAt at this
 rw [this];rfl
theorem RQ_cell:(RQ lot s ps v e)[4]?=some (.cells tP (pqC v e) 0):=rfl
theorem RQ_same:sameO (some (.cells tP (pqC v e) 0)) (some (.cells tP (pqC v e) 0))=true:=sameO_two
def RX (v:List Vol) (e:List Ent):Heap:=[.dead,dd volR tV v,dd entR tE e]
theorem RQ_frz:freezeV E.P depth 0 (RQ lot s ps v e) (.pointer (some ⟨4,0,none⟩))=some (cptr (.agg ⟨[lst false (volR.vals v),lst false (entR.vals e)]⟩),DQ lot s ps++RX v e):=by
 have fv:∀ (X Y:AObj),freezeV E.P 7 0 (DQ lot s ps++[X,volR.row tV v,Y]) (volR.sl 5 v)=some (lst false (volR.vals v),if v.length=0 then DQ lot s ps++[X,volR.row tV v,Y] else DQ lot s ps++[X,.dead,Y]):=fun X Y=>by
  have ho:(DQ lot s ps++[X,volR.row tV v,Y])[5]?=some (.cells tV (volR.flat v) (8+1)):=rfl
  exact frz_agg1 (n:=6) (lo:=0) (l:=volR.vals v) (len:=v.length) (cap:=v.length) (k:=v.length * 9) ho sVol aVol (by omega) (Rec.vals_flat v).symm (Rec.flat_len (R:=volR) (l:=v)).symm Rec.vals_len.symm (by omega) (Rec.vals_agg v) (Rec.flat_set v)
 have fe:∀ (X Y:AObj),freezeV E.P 7 0 (DQ lot s ps++[X,Y,entR.row tE e]) (entR.sl 6 e)=some (lst false (entR.vals e),if e.length=0 then DQ lot s ps++[X,Y,entR.row tE e] else DQ lot s ps++[X,Y,.dead]):=fun X Y=>by
  have ho:(DQ lot s ps++[X,Y,entR.row tE e])[6]?=some (.cells tE (entR.flat e) (1+1)):=rfl
  exact frz_agg1 (n:=6) (lo:=0) (l:=entR.vals e) (len:=e.length) (cap:=e.length) (k:=e.length * 2) ho sEnt aEnt (by omega) (Rec.vals_flat e).symm (Rec.flat_len (R:=entR) (l:=e)).symm Rec.vals_len.symm (by omega) (Rec.vals_agg e) (Rec.flat_set e)
 have key:([volR.sl 5 v,entR.sl 6 e]:List Value).foldlM (init:=(([]:List Value),DQ lot s ps++[AObj.dead,volR.row tV v,entR.row tE e])) (fun r x=>(freezeV E.P 7 0 r.2 x).map fun y=>(r.1++[y.1],y.2))=some ([lst false (volR.vals v),lst false (entR.vals e)],DQ lot s ps++RX v e):=by
  simp only [List.foldlM_cons,List.foldlM_nil,fv,Option.map_some,Option.bind_eq_bind,Option.bind_some,List.nil_append]
  unfold RX dd
  by_cases hv:v.length=0
  ·rw [if_pos hv,if_pos hv,fe]
   by_cases he:e.length=0
   ·rw [if_pos he,if_pos he];rfl
   ·rw [if_neg he,if_neg he];rfl
  ·rw [if_neg hv,if_neg hv,fe]
   by_cases he:e.length=0
   ·rw [if_pos he,if_pos he];rfl
   ·rw [if_neg he,if_neg he];rfl
 have hset:(RQ lot s ps v e).set 4 .dead=DQ lot s ps++[AObj.dead,volR.row tV v,entR.row tE e]:=rfl
 rw [frz_ptr8 (t:=tP) (b:=4) (c:=pqC v e) rfl sPhs aPhs (Nat.zero_le _),hset,if_neg (by simp [pqC,Rec.sl,settled])]
 exact congrArg (Option.map fun r=>(cptr (.agg ⟨r.1⟩),r.2)) key
theorem DQ_ld {X:Heap}:loadT ⟨some false,some 1⟩ (DQ lot s ps++X) (.pointer (some ⟨2,1,none⟩))=some (phR.sl 3 ps):=obj_load (j:=1) (t:=tD) (c:=[.int .i64 lot,phR.sl 3 ps]) rfl rfl
theorem DQ_app {X:Heap} (p:Phs) (hp:ps.length≤1000):appendT (some elP) (DQ lot s ps++X) 0 false (phR.sl 3 ps) (lst true (phR.vals [p]))=some (phR.sl 3 (ps++[p]),nilD :: rdC tRq s :: .cells tD [.int .i64 lot,phR.sl 3 ps] 0 :: phR.row tP (ps++[p]) :: X):=by
 have:=Rec.app (R:=phR) (m:=[p]) (lo:=0) (h:=DQ lot s ps++X) (b:=3) (acc:=ps) (t:=tP) (u:=lst true (phR.vals [p])) (el:=elP) rfl rfl (Rec.cells_tree (R:=phR) rfl [p]) (Nat.zero_le _) (by show (ps.length+1) * 48≤2 ^ 47;omega)
 rw [this];rfl
theorem DQ_st {ps':List Phs} {X:Heap}:storeT (some 1) (nilD :: rdC tRq s :: .cells tD [.int .i64 lot,phR.sl 3 ps] 0 :: phR.row tP ps' :: X) 0 (phR.sl 3 ps') (.pointer (some ⟨2,1,none⟩))=some (DQ lot s ps'++X):=by
 have:=obj_store (h:=nilD :: rdC tRq s :: .cells tD [.int .i64 lot,phR.sl 3 ps] 0 :: phR.row tP ps' :: X) (b:=2) (j:=1) (lo:=0) (t:=tD) (c:=[.int .i64 lot,phR.sl 3 ps]) (v:=phR.sl 3 ps') rfl (by simp) (Nat.zero_le _) rfl
 unfold cAt at this
 rw [this];rfl
theorem DQ_trim {σ:List Value} (hσ:σ.all (below 8 4)=true):trim 4 σ (DQ lot s ps++RX v e)=DQ lot s ps:=by
 rw [trim_cut (by rw [List.length_append,DQ_len];show ¬ 4+3≤4;decide) hσ (by rw [List.take_left' DQ_len];exact DQ_all),List.take_left' DQ_len]
end
end Go.Proofs.YtplebjehcgcdeaaGreatDoor.Bm
namespace Go.Proofs.YtplebjehcgcdeaaGreatDoor.Bm
open Go Go.RowKit
open Dw (RS Vol Ent Phs Drw numS textR volsR givesR phaseR phsR readR refF formB)
section
variable {lot:Int} {ps:List Phs}
theorem RQ_bad (s:RS) (c:List Value) (v:List Vol) (e:List Ent) {sz:Option Nat}:loadT ⟨some false,sz⟩ (RG lot s ps c v e) (.pointer (some ⟨1,1,none⟩))=some (.bool s.2):=rd_bad (h:=RG lot s ps c v e) (b:=1) (s:=s) rfl
theorem RQ_num (s:RS) (v:List Vol) (e:List Ent) (hl:s.1.length≤100000):retCall E (L E) 0 false 89 [rdP 1] (RQ lot s ps v e)=some (.int .i64 (numS 59 0 s).1,RQ lot (numS 59 0 s).2 ps v e):=by
 have:=qnum_spec (h:=RQ lot s ps v e) (b:=1) (lo:=0) (s:=s) rfl (Nat.zero_le _) (by omega)
 exact this
theorem RQ_text (s:RS) (v:List Vol) (e:List Ent) (hl:s.1.length≤100000):retCall E (L E) 0 false 91 [rdP 1] (RQ lot s ps v e)=some (.string ⟨⟨(textR s).1⟩⟩,RQ lot (textR s).2 ps v e):=by
 have:=qtext_spec (h:=RQ lot s ps v e) (b:=1) (lo:=0) (s:=s) rfl (Nat.zero_le _) (by omega)
 exact this
theorem RQ_vol (s:RS) (v:List Vol) (e:List Ent) (hl:s.1.length≤100000):retCall E (L E) 0 false 90 [rdP 1] (RQ lot s ps v e)=some (.agg ⟨volR.enc (Dw.volR s).1⟩,RQ lot (Dw.volR s).2 ps v e):=by
 have:=qvol_spec (h:=RQ lot s ps v e) (b:=1) (lo:=0) (s:=s) rfl (Nat.zero_le _) hl RQ_all
 exact this
end
theorem bP0:buildT (.fs ⟨[.slice none 0 0,.slice none 0 0]⟩ ⟨[(0,1),(1,1)]⟩) #[]=some (.agg ⟨[.slice none 0 0,.slice none 0 0]⟩):=by kernel_rfl
def refX (l:List UInt8) (d:Drw) (s:RS):Option Drw:=if ((!s.2 && decide (s.1=[])) && (formB d && decide (l=Dw.enc d)))=true then some d else none
theorem refF_X (l:List UInt8):refF formB l=refX l (readR l).1 (readR l).2:=rfl
set_option maxHeartbeats 2000000 in
theorem qread_pure (l:List UInt8) (hl:l.length≤4000):pureCall E.P (L E) 32 [.string ⟨⟨l⟩⟩]=some (resD (refF formB l)):=by
 have op:=fun h lo=>qopen_call l h lo
 have n1:=qnum_spec (h:=[nilD,rdC tRq (l,false)]) (b:=1) (lo:=0) (s:=(l,false)) rfl (Nat.zero_le _) (by simp only;omega)
 have hl1:=numS_len (e:=59) (least:=0) (l,false)
 have eR:readR l=(⟨(numS 59 0 (l,false)).1,(phsR (min (numS 59 0 (numS 59 0 (l,false)).2).1.toNat 9) (numS 59 0 (numS 59 0 (l,false)).2).2 []).1⟩,(phsR (min (numS 59 0 (numS 59 0 (l,false)).2).1.toNat 9) (numS 59 0 (numS 59 0 (l,false)).2).2 []).2):=rfl
 rw [refF_X,eR]
 clear eR
 rw [pureCall_fn F32 rfl]
 generalize numS 59 0 (l,false)=a at *
 obtain ⟨lot,s1⟩:=a
 simp only at *
 have hge:=Dw.numS_ge (e:=59) (least:=0) (s:=s1) (Int.le_refl _)
 have hle:=numS_len (e:=59) (least:=0) s1
 have n2:=qnum_spec (h:=DQ lot s1 []) (b:=1) (lo:=0) (s:=s1) rfl (Nat.zero_le _) (by omega)
 change _=some (_,DQ lot (numS 59 0 s1).2 []) at n2
 generalize numS 59 0 s1=a at *
 obtain ⟨z,s2⟩:=a
 obtain ⟨n,rfl⟩:∃ n:Nat,z=n:=⟨z.toNat,(Int.toNat_of_nonneg hge).symm⟩
 simp only [Int.toNat_natCast] at *
 have cN:=fun σ=>DQ_new (lot:=lot) (s:=s1) σ
 generalize hN:min n 9=N
 generalize hRH:resD _=RH
 simp -implicitDefEqProofs [r32,p32,op,n1,prep_newc,bD1,cN,n2,-Int.natCast_add]
 rw [LL_rec (α:=RS × Nat × List Phs) (s2,0,[]) (fun a=>[(7,.int .i64 (a.2.1:Int))]) (fun a=>DQ lot a.1 a.2.2)
  (fun a=>(.exit 0,[(7,undef)],DQ lot (phsR (N-a.2.1) a.1 a.2.2).2 (phsR (N-a.2.1) a.1 a.2.2).1))
  (fun a=>a.1.1.length≤4000∧a.2.1≤N∧a.2.2.length=a.2.1) (fun a=>N-a.2.1) ⟨by simp only;omega,Nat.zero_le _,rfl⟩]
 ·rw [Nat.sub_zero]
  obtain ⟨hA,hB⟩:=phsR_out (B:=4000) N s2 [] (by omega) (by simp)
  generalize phsR N s2 []=q at *
  obtain ⟨ps,s5⟩:=q
  simp only [List.length_nil,Nat.zero_add] at hA hB hRH ⊢
  have dn:=qdone_call (h:=DQ lot s5 ps) (b:=1) (lo:=0) (s:=s5) rfl
  have lf:loadT ⟨some true,some 2⟩ (DQ lot s5 ps) (.pointer (some ⟨2,0,none⟩))=some (.agg ⟨[.int .i64 lot,phR.sl 3 ps]⟩):=obj_all (n:=2) (t:=tD) rfl rfl
  have rfD:∀ X,reify E.P 8 (X :: rdC tRq s5 :: .cells tD [.int .i64 lot,phR.sl 3 ps] 0 :: [phR.row tP ps]) (.agg ⟨[.int .i64 lot,phR.sl 3 ps]⟩)=some (drV (some false) ⟨lot,ps⟩):=fun X=>by
   have r1:reify E.P 7 (X :: rdC tRq s5 :: .cells tD [.int .i64 lot,phR.sl 3 ps] 0 :: [phR.row tP ps]) (phR.sl 3 ps)=some (lst false (phR.vals ps)):=Rec.reify_row (b:=3) (t:=tP) rfl sPhs aPhs
   rw [reify_agg,reifyC_map (by simp [Rec.sl,settled]),mapR_cons,mapR_cons,mapR_nil,r1];rfl
  have rfD1:reify E.P 8 (DQ lot s5 ps) (.agg ⟨[.int .i64 lot,phR.sl 3 ps]⟩)=some (drV (some false) ⟨lot,ps⟩):=rfD _
  have by_:=qbytes_pure (some false) ⟨lot,ps⟩ Rec.ok_some (by simp only;omega) (by
   have:=flatQ_bound hB
   unfold Dw.Drw.all
   simp only;omega) (fun p hp=>by
   obtain ⟨h1,h2,h3⟩:=hB p hp
   exact ⟨by omega,fun e he=>by have:=h3 e he;omega⟩)
  unfold resB at by_
  unfold refX at hRH
  have sD:storeT (some 2) (DQ lot s5 ps) 0 (.agg ⟨[.int .i64 0,.slice none 0 0]⟩) (.pointer (some ⟨0,0,none⟩))=some (DQ lot s5 ps):=by
   have:=obj_put (h:=DQ lot s5 ps) (b:=0) (n:=2) (lo:=0) (t:=tD) (c:=[.int .i64 0,.slice none 0 0]) (d:=[.int .i64 0,.slice none 0 0]) rfl rfl rfl (by decide) (Nat.zero_le _)
   unfold cAt at this
   rw [this];rfl
  have gD:loadT ⟨some true,some 2⟩ (DQ lot s5 ps) (.pointer (some ⟨0,0,none⟩))=some (.agg ⟨[.int .i64 0,.slice none 0 0]⟩):=obj_all (n:=2) (t:=tD) rfl rfl
  have rz:∀ h,reifyR E.P h (.tuple ⟨[.agg ⟨[.int .i64 0,.slice none 0 0]⟩,.int .i64 2]⟩)=some (.tuple ⟨[.agg ⟨[.int .i64 0,.slice none 0 0]⟩,.int .i64 2]⟩):=fun h=>rfl
  cases hf:formB ⟨lot,ps⟩ with
  | false =>
   rw [hf,if_neg (by simp)] at by_
   rw [hf,Bool.false_and,Bool.and_false,if_neg (by simp)] at hRH
   rw [← hRH]
   cases hdn:(!s5.2 && decide (s5.1=[])) with
   | false =>
    rw [hdn] at dn
    simp -implicitDefEqProofs [k32_5,lf,rfD1,ret0 m14,by_,dn,bD0,sD,gD,rz,resD,-reify_agg]
   | true =>
    rw [hdn] at dn
    simp -implicitDefEqProofs [k32_5,lf,rfD1,ret0 m14,by_,dn,bD0,sD,gD,rz,resD,-reify_agg]
  | true =>
   rw [hf,if_pos rfl] at by_
   rw [hf,Bool.true_and] at hRH
   cases hdn:(!s5.2 && decide (s5.1=[])) with
   | false =>
    rw [hdn] at dn
    rw [hdn,Bool.false_and,if_neg (by simp)] at hRH
    rw [← hRH]
    simp -implicitDefEqProofs [k32_5,lf,rfD1,ret0 m14,by_,dn,bD0,sD,gD,rz,resD,-reify_agg]
   | true =>
    rw [hdn] at dn
    rw [hdn,Bool.true_and] at hRH
    generalize Dw.enc ⟨lot,ps⟩=EN at *
    by_cases hle:l=EN
    ·subst hle
     rw [decide_eq_true rfl,if_pos rfl] at hRH
     rw [← hRH]
     have sF:storeT (some 2) (DQ lot s5 ps) 0 (.agg ⟨[.int .i64 lot,phR.sl 3 ps]⟩) (.pointer (some ⟨0,0,none⟩))=some [.cells tD [.int .i64 lot,phR.sl 3 ps] 0,rdC tRq s5,.cells tD [.int .i64 lot,phR.sl 3 ps] 0,phR.row tP ps]:=by
      have:=obj_put (h:=DQ lot s5 ps) (b:=0) (n:=2) (lo:=0) (t:=tD) (c:=[.int .i64 0,.slice none 0 0]) (d:=[.int .i64 lot,phR.sl 3 ps]) rfl rfl rfl (by decide) (Nat.zero_le _)
      unfold cAt at this
      rw [this];rfl
     have gF:loadT ⟨some true,some 2⟩ [.cells tD [.int .i64 lot,phR.sl 3 ps] 0,rdC tRq s5,.cells tD [.int .i64 lot,phR.sl 3 ps] 0,phR.row tP ps] (.pointer (some ⟨0,0,none⟩))=some (.agg ⟨[.int .i64 lot,phR.sl 3 ps]⟩):=obj_all (n:=2) (t:=tD) rfl rfl
     have rR:=rfD (.cells tD [.int .i64 lot,phR.sl 3 ps] 0)
     generalize phR.sl 3 ps=SL at *
     generalize hDV:drV (some false) ⟨lot,ps⟩=DV at *
     simp -implicitDefEqProofs [k32_5,lf,rfD1,ret0 m14,by_,dn,sF,gF,rR,resD,hDV,-reify_agg]
    ·rw [decide_eq_false hle,if_neg (by simp)] at hRH
     rw [← hRH]
     simp -implicitDefEqProofs [k32_5,lf,rfD1,ret0 m14,by_,dn,hle,bD0,sD,gD,rz,resD,-reify_agg]
 ·simp -implicitDefEqProofs [k32_5]
 ·rfl
 ·rintro nx ⟨s3,i,ps⟩ ⟨hi1,hi2,hi3⟩ ih
  simp only at hi1 hi2 hi3
  have lb:=rd_bad (h:=DQ lot s3 ps) (b:=1) (s:=s3) rfl (sz:=some 1)
  by_cases hi:i<N
  ·have hii:((i:Nat):Int)<(n:Int):=by omega
   have hi8:((i:Nat):Int)≤8:=by omega
   have eN:N-i=(N-(i+1))+1:=by omega
   cases hs:s3.2 with
   | true =>
    rw [hs] at lb
    have e0:phsR (N-i) s3 ps=(ps,s3):=by rw [eN];unfold phsR;rw [if_pos hs]
    rw [e0]
    simp -implicitDefEqProofs [r32_5,k32_5,hii,rop_nilCheck,lb,trim_le,-Int.natCast_add]
   | false =>
    rw [hs] at lb
    have e0:phsR (N-i) s3 ps=phsR (N-(i+1)) (phaseR s3).2 (ps++[(phaseR s3).1]):=by
     rw [eN]
     conv=>lhs;unfold phsR
     rw [if_neg (by rw [hs];simp)]
    rw [e0]
    have hpl:=(phaseR_out (B:=4000) hi1).2
    have ih:=ih ((phaseR s3).2,i+1,ps++[(phaseR s3).1]) (by simp only;omega) ⟨by simp only;omega,by simp only;omega,by simp [hi3]⟩
    have q1:=RQ_num (lot:=lot) (ps:=ps) s3 [] [] (by omega)
    have hl2:=numS_len (e:=59) (least:=0) s3
    have hg2:=Dw.numS_ge (e:=59) (least:=0) (s:=s3) (Int.le_refl _)
    unfold phaseR at ih ⊢
    simp only at ih ⊢
    generalize numS 59 0 s3=a at *
    obtain ⟨z,s4⟩:=a
    obtain ⟨m,rfl⟩:∃ n:Nat,z=n:=⟨z.toNat,(Int.toNat_of_nonneg hg2).symm⟩
    simp only [Int.toNat_natCast] at *
    have st0:=RQ_st0 (lot:=lot) (s:=s3) (ps:=ps)
    have nw1:=fun σ=>RQ_new1 (lot:=lot) (s:=s3) (ps:=ps) σ
    have nw2:=fun σ=>RQ_new2 (lot:=lot) (s:=s3) (ps:=ps) σ
    have w1:IntKind.i64.wrap ((i:Int)+1)=((i+1:Nat):Int):=wrap64 (by omega) (by omega)
    simp -implicitDefEqProofs [k32_5,-Int.natCast_add] at ih
    simp -implicitDefEqProofs [r32_5,k32_5,hii,hi8,rop_nilCheck,lb,DQ_len,bP0,st0,prep_newc,nw1,nw2,q1,-Int.natCast_add]
    obtain ⟨M,hM⟩:∃ M,min m 41=M:=⟨_,rfl⟩
    rw [hM] at ih ⊢
    rw [LL_rec (α:=RS × Nat × List Vol) (s4,0,[]) (fun a=>[(10,.int .i64 (a.2.1:Int))]) (fun a=>RQ lot a.1 ps a.2.2 [])
     (fun a=>(.exit 2,[(10,undef)],RQ lot (volsR (M-a.2.1) a.1 a.2.2).2 ps (volsR (M-a.2.1) a.1 a.2.2).1 []))
     (fun a=>a.1.1.length≤4000∧a.2.1≤M∧a.2.2.length=a.2.1) (fun a=>M-a.2.1) ⟨by simp only;omega,Nat.zero_le _,rfl⟩]
    ·rw [Nat.sub_zero]
     simp only at ih ⊢
     obtain ⟨hV1,hV2⟩:=volsR_out M s4 []
     generalize volsR M s4 []=V at *
     obtain ⟨vs,s5⟩:=V
     simp only at *
     have q2:=RQ_num (lot:=lot) (ps:=ps) s5 vs [] (by omega)
     have hl3:=numS_len (e:=59) (least:=0) s5
     have hg3:=Dw.numS_ge (e:=59) (least:=0) (s:=s5) (Int.le_refl _)
     generalize numS 59 0 s5=a at *
     obtain ⟨z,s6⟩:=a
     obtain ⟨g,rfl⟩:∃ n:Nat,z=n:=⟨z.toNat,(Int.toNat_of_nonneg hg3).symm⟩
     simp only [Int.toNat_natCast] at *
     simp -implicitDefEqProofs [k32_10,q2,-Int.natCast_add]
     obtain ⟨G,hG⟩:∃ G,min g 31=G:=⟨_,rfl⟩
     rw [hG] at ih ⊢
     rw [LL_rec (α:=RS × Nat × List Ent) (s6,0,[]) (fun a=>[(12,.int .i64 (a.2.1:Int))]) (fun a=>RQ lot a.1 ps vs a.2.2)
      (fun a=>(.exit 4,[(12,undef)],RQ lot (givesR (G-a.2.1) a.1 a.2.2).2 ps vs (givesR (G-a.2.1) a.1 a.2.2).1))
      (fun a=>a.1.1.length≤4000∧a.2.1≤G∧a.2.2.length=a.2.1) (fun a=>G-a.2.1) ⟨by simp only;omega,Nat.zero_le _,rfl⟩]
     ·rw [Nat.sub_zero]
      simp only at ih ⊢
      generalize givesR G s6 []=W at *
      obtain ⟨es,s7⟩:=W
      simp only at *
      have fz:=RQ_frz (lot:=lot) (s:=s7) (ps:=ps) (v:=vs) (e:=es)
      have li:=fun h=>lit_ph h ⟨vs,es⟩
      have ap:=DQ_app (lot:=lot) (s:=s7) (ps:=ps) (X:=RX vs es) ⟨vs,es⟩ (by omega)
      have ldD:=DQ_ld (lot:=lot) (s:=s7) (ps:=ps) (X:=RX vs es)
      have sE:=DQ_st (lot:=lot) (s:=s7) (ps:=ps) (ps':=ps++[⟨vs,es⟩]) (X:=RX vs es)
      have tr:=fun σ hσ=>DQ_trim (lot:=lot) (s:=s7) (ps:=ps++[⟨vs,es⟩]) (v:=vs) (e:=es) (σ:=σ) hσ
      have pe:phR.enc ⟨vs,es⟩=[lst false (volR.vals vs),lst false (entR.vals es)]:=rfl
      have ft:fitsTT ⟨some true,some 2⟩ (.agg ⟨phR.enc ⟨vs,es⟩⟩)=true:=rfl
      rw [← pe] at fz
      generalize phR.enc ⟨vs,es⟩=LP at *
      generalize phR.vals [⟨vs,es⟩]=LV at *
      generalize RX vs es=XX at *
      simp -implicitDefEqProofs [k32_5,k32_15,prep_frz,fz,ft,ldD,li,ap,sE,tr,w1,-Int.natCast_add,-List.all_eq_true]
      exact ih
     ·simp -implicitDefEqProofs [k32_15]
     ·rfl
     ·rintro nx2 ⟨s7,j,es⟩ ⟨hj1,hj2,hj3⟩ ih2
      simp only at hj1 hj2 hj3
      have lb2:=RQ_bad (lot:=lot) (ps:=ps) s7 (pqC vs es) vs es (sz:=some 1)
      by_cases hj:j<G
      ·have hjj:((j:Nat):Int)<(g:Int):=by omega
       have hj8:((j:Nat):Int)≤30:=by omega
       have eN:G-j=(G-(j+1))+1:=by omega
       cases hs7:s7.2 with
       | true =>
        rw [hs7] at lb2
        have e0:givesR (G-j) s7 es=(es,s7):=by rw [eN];unfold givesR;rw [if_pos hs7]
        rw [e0]
        simp -implicitDefEqProofs [r32_15,k32_15,hjj,rop_nilCheck,lb2,trim_le,-Int.natCast_add]
       | false =>
        rw [hs7] at lb2
        have e0:givesR (G-j) s7 es=givesR (G-(j+1)) (numS 59 0 (textR s7).2).2 (es++[((textR s7).1,(numS 59 0 (textR s7).2).1)]):=by
         rw [eN]
         conv=>lhs;unfold givesR
         rw [if_neg (by rw [hs7];simp)]
        rw [e0]
        have tx:=RQ_text (lot:=lot) (ps:=ps) s7 vs es (by omega)
        have htl:=textR_len s7
        generalize textR s7=u at *
        obtain ⟨t,s8⟩:=u
        simp only at *
        have nm:=RQ_num (lot:=lot) (ps:=ps) s8 vs es (by omega)
        have hnl:=numS_len (e:=59) (least:=0) s8
        generalize numS 59 0 s8=u at *
        obtain ⟨y,s9⟩:=u
        simp only at *
        have dE:=RQ_ldE (lot:=lot) (s:=s8) (ps:=ps) (v:=vs) (e:=es) (sz:=some 1)
        have li:=fun h=>lit_ent h (t,y)
        have bE:buildT (.fs ⟨[.string ⟨⟨[]⟩⟩,.int .i64 0]⟩ ⟨[(0,1),(1,1)]⟩) #[(0,.string ⟨⟨t⟩⟩),(1,.int .i64 y)]=some (.agg ⟨entR.enc (t,y)⟩):=bldE
        have ap:=RQ_appE (lot:=lot) (s:=s9) (ps:=ps) (c:=pqC vs es) (v:=vs) (e:=es) (t,y) (by omega)
        have sE:=RQ_stE (lot:=lot) (s:=s9) (ps:=ps) (v:=vs) (e:=es) (e':=es++[(t,y)])
        have w2:IntKind.i64.wrap ((j:Int)+1)=((j+1:Nat):Int):=wrap64 (by omega) (by omega)
        have ih2:=ih2 (s9,j+1,es++[(t,y)]) (by simp only;omega) ⟨by simp only;omega,by simp only;omega,by simp [hj3]⟩
        generalize givesR (G-(j+1)) s9 (es++[(t,y)])=q at *
        simp -implicitDefEqProofs [k32_15,-Int.natCast_add] at ih2
        have gP:(RQ lot s8 ps vs es)[4]?=some (.cells tP (pqC vs es) 0):=RQ_cell
        have gP9:(RQ lot s9 ps vs es)[4]?=some (.cells tP (pqC vs es) 0):=RQ_cell
        have cB:∀ σ,slot σ 8=.pointer (some ⟨4,0,none⟩)→calmB 8 σ (RQ lot s8 ps vs es)=some (4,7):=fun σ hσ=>calmB_ptr (h:=RQ lot s8 ps vs es) hσ (by show 4<7;decide)
        have cR:∀ (k:TI) (a:Operand) (ρ:Operand→Value),ρ a=.pointer (some ⟨4,1,none⟩)→calmR (4,7) (RQ lot s8 ps vs es) (.load k a) ρ=true:=fun k a ρ ha=>calmR_load ha rfl gP bel_P
        have sm:=RQ_same (v:=vs) (e:=es)
        simp -implicitDefEqProofs [r32_15,k32_15,hjj,hj8,rop_nilCheck,lb2,tx,prep_still,prep_calm,dE,nm,bE,li,ap,sE,RG_len,trim_le,w2,cB,cR,gP,gP9,sm,nextQ_race,-getElem?_pos,-Int.natCast_add]
        exact ih2
      ·have hc:¬ (((j:Nat):Int)<(g:Int)∧((j:Nat):Int)≤30):=by omega
       have e0:givesR (G-j) s7 es=(es,s7):=by rw [show G-j=0 by omega];rfl
       rw [e0]
       by_cases hjj:((j:Nat):Int)<(g:Int)
       ·have hj8:¬ ((j:Nat):Int)≤30:=fun q=>hc ⟨hjj,q⟩
        cases hs7:s7.2 with
        | true =>
         rw [hs7] at lb2
         simp -implicitDefEqProofs [r32_15,k32_15,hjj,rop_nilCheck,lb2,trim_le,-Int.natCast_add]
        | false =>
         rw [hs7] at lb2
         simp -implicitDefEqProofs [r32_15,k32_15,hjj,hj8,rop_nilCheck,lb2,trim_le,-Int.natCast_add]
       ·simp -implicitDefEqProofs [r32_15,k32_15,hjj,trim_le,-Int.natCast_add]
    ·simp -implicitDefEqProofs [k32_10]
    ·rfl
    ·rintro nx2 ⟨s7,j,vs⟩ ⟨hj1,hj2,hj3⟩ ih2
     simp only at hj1 hj2 hj3
     have lb2:=RQ_bad (lot:=lot) (ps:=ps) s7 (pqC vs []) vs [] (sz:=some 1)
     by_cases hj:j<M
     ·have hjj:((j:Nat):Int)<(m:Int):=by omega
      have hj8:((j:Nat):Int)≤40:=by omega
      have eN:M-j=(M-(j+1))+1:=by omega
      cases hs7:s7.2 with
      | true =>
       rw [hs7] at lb2
       have e0:volsR (M-j) s7 vs=(vs,s7):=by rw [eN];unfold volsR;rw [if_pos hs7]
       rw [e0]
       simp -implicitDefEqProofs [r32_10,k32_10,hjj,rop_nilCheck,lb2,trim_le,-Int.natCast_add]
      | false =>
       rw [hs7] at lb2
       have e0:volsR (M-j) s7 vs=volsR (M-(j+1)) (Dw.volR s7).2 (vs++[(Dw.volR s7).1]):=by
        rw [eN]
        conv=>lhs;unfold volsR
        rw [if_neg (by rw [hs7];simp)]
       rw [e0]
       have vl:=RQ_vol (lot:=lot) (ps:=ps) s7 vs [] (by omega)
       have htl:=volR_len s7
       generalize Dw.volR s7=u at *
       obtain ⟨v,s9⟩:=u
       simp only at *
       have dV:=RQ_ldV (lot:=lot) (s:=s7) (ps:=ps) (v:=vs) (e:=[]) (sz:=some 1)
       have li:=fun h=>lit_vol h v
       have ap:=RQ_appV (lot:=lot) (s:=s9) (ps:=ps) (c:=pqC vs []) (v:=vs) (e:=[]) v (by omega)
       have sV:=RQ_stV (lot:=lot) (s:=s9) (ps:=ps) (v:=vs) (e:=[]) (v':=vs++[v])
       have w2:IntKind.i64.wrap ((j:Int)+1)=((j+1:Nat):Int):=wrap64 (by omega) (by omega)
       have ih2:=ih2 (s9,j+1,vs++[v]) (by simp only;omega) ⟨by simp only;omega,by simp only;omega,by simp [hj3]⟩
       generalize volsR (M-(j+1)) s9 (vs++[v])=q at *
       simp -implicitDefEqProofs [k32_10,-Int.natCast_add] at ih2
       have gP:(RQ lot s7 ps vs [])[4]?=some (.cells tP (pqC vs []) 0):=RQ_cell
       have gP9:(RQ lot s9 ps vs [])[4]?=some (.cells tP (pqC vs []) 0):=RQ_cell
       have cB:∀ σ,slot σ 8=.pointer (some ⟨4,0,none⟩)→calmB 8 σ (RQ lot s7 ps vs [])=some (4,7):=fun σ hσ=>calmB_ptr (h:=RQ lot s7 ps vs []) hσ (by show 4<7;decide)
       have cR:∀ (k:TI) (a:Operand) (ρ:Operand→Value),ρ a=.pointer (some ⟨4,0,none⟩)→calmR (4,7) (RQ lot s7 ps vs []) (.load k a) ρ=true:=fun k a ρ ha=>calmR_load ha rfl gP bel_P
       have sm:=RQ_same (v:=vs) (e:=[])
       generalize volR.enc v=LV at *
       generalize volR.vals [v]=VV at *
       simp -implicitDefEqProofs [r32_10,k32_10,hjj,hj8,rop_nilCheck,lb2,prep_still,prep_calm,dV,vl,li,ap,sV,RG_len,trim_le,w2,cB,cR,gP,gP9,sm,nextQ_race,-getElem?_pos,-Int.natCast_add]
       exact ih2
     ·have hc:¬ (((j:Nat):Int)<(m:Int)∧((j:Nat):Int)≤40):=by omega
      have e0:volsR (M-j) s7 vs=(vs,s7):=by rw [show M-j=0 by omega];rfl
      rw [e0]
      by_cases hjj:((j:Nat):Int)<(m:Int)
      ·have hj8:¬ ((j:Nat):Int)≤40:=fun q=>hc ⟨hjj,q⟩
       cases hs7:s7.2 with
       | true =>
        rw [hs7] at lb2
        simp -implicitDefEqProofs [r32_10,k32_10,hjj,rop_nilCheck,lb2,trim_le,-Int.natCast_add]
       | false =>
        rw [hs7] at lb2
        simp -implicitDefEqProofs [r32_10,k32_10,hjj,hj8,rop_nilCheck,lb2,trim_le,-Int.natCast_add]
      ·simp -implicitDefEqProofs [r32_10,k32_10,hjj,trim_le,-Int.natCast_add]
  ·have hc:¬ (((i:Nat):Int)<(n:Int)∧((i:Nat):Int)≤8):=by omega
   have e0:phsR (N-i) s3 ps=(ps,s3):=by rw [show N-i=0 by omega];rfl
   rw [e0]
   by_cases hii:((i:Nat):Int)<(n:Int)
   ·have hi8:¬ ((i:Nat):Int)≤8:=fun q=>hc ⟨hii,q⟩
    cases hs:s3.2 with
    | true =>
     rw [hs] at lb
     simp -implicitDefEqProofs [r32_5,k32_5,hii,rop_nilCheck,lb,trim_le,-Int.natCast_add]
    | false =>
     rw [hs] at lb
     simp -implicitDefEqProofs [r32_5,k32_5,hii,hi8,rop_nilCheck,lb,trim_le,-Int.natCast_add]
   ·simp -implicitDefEqProofs [r32_5,k32_5,hii,trim_le,-Int.natCast_add]
end Go.Proofs.YtplebjehcgcdeaaGreatDoor.Bm
namespace Go.Proofs.YtplebjehcgcdeaaGreatDoor.Bm
open Go Go.RowKit
open Dw (Vol Ent Phs Drw)
theorem qsame_pure {k m:Option Bool} (a b:Drw) (hk:Rec.Ok k a.phs) (hm:Rec.Ok m b.phs) (ha:a.phs.length≤1000000) (hb:b.phs.length≤1000000) (hla:∀ p∈a.phs,Lens p) (hlb:∀ p∈b.phs,Lens p) :
  pureCall E.P (L E) 20 [drV k a,drV m b]=some (.bool (decide (a=b))):=by
 rw [pureCall_fn F20 rfl,drw_eq]
 obtain ⟨la,pa⟩:=a
 obtain ⟨lb,pb⟩:=b
 simp only at hk hm ha hb hla hlb ⊢
 have na:∀ h,lenT .sl h (phR.o k pa)=some (.int .i64 pa.length):=fun h=>Rec.o_len hk
 have nb:∀ h,lenT .sl h (phR.o m pb)=some (.int .i64 pb.length):=fun h=>Rec.o_len hm
 have ia:=fun (i:Nat) (hi:i<pa.length)=>Rec.o_index (R:=phR) (s:=2) (t:=tP) (kk:=.i64) rfl hk hi
 have ib:=fun (i:Nat) (hi:i<pb.length)=>Rec.o_index (R:=phR) (s:=2) (t:=tP) (kk:=.i64) rfl hm hi
 have f0:∀ p:Phs,fieldAddrT ⟨some true,some 2⟩ (some (0,⟨some false,some 1⟩)) (cptr (phR.val p))=some (cptr (lst false (volR.vals p.vols))):=fun p=>rfl
 have f1:∀ p:Phs,fieldAddrT ⟨some true,some 2⟩ (some (1,⟨some false,some 1⟩)) (cptr (phR.val p))=some (cptr (lst false (entR.vals p.gives))):=fun p=>rfl
 have lv:∀ (p:Phs) h,loadT ⟨some false,some 1⟩ h (cptr (lst false (volR.vals p.vols)))=some (lst false (volR.vals p.vols)):=fun p h=>rfl
 have lg:∀ (p:Phs) h,loadT ⟨some false,some 1⟩ h (cptr (lst false (entR.vals p.gives)))=some (lst false (entR.vals p.gives)):=fun p h=>rfl
 have rv:∀ (p:Phs) h,reify E.P 8 h (lst false (volR.vals p.vols))=some (lst false (volR.vals p.vols)):=fun p h=>rfl
 have rg:∀ (p:Phs) h,reify E.P 8 h (lst false (entR.vals p.gives))=some (lst false (entR.vals p.gives)):=fun p h=>rfl
 have fla:aBox [] tD (.agg ⟨[.int .i64 la,phR.o k pa]⟩)=some (.pointer (some ⟨0,0,none⟩),[.cells tD [.int .i64 la,phR.o k pa] 0]):=by cases k <;> rfl
 have flb:∀ X,aBox X tD (.agg ⟨[.int .i64 lb,phR.o m pb]⟩)=some (.pointer (some ⟨X.length,0,none⟩),X++[.cells tD [.int .i64 lb,phR.o m pb] 0]):=fun X=>by cases m <;> rfl
 unfold drV
 simp only
 generalize phR.o k pa=VA at *
 generalize phR.o m pb=VB at *
 obtain ⟨A0,hA⟩:∃ A,AObj.cells tD [.int .i64 la,VA] 0=A:=⟨_,rfl⟩
 obtain ⟨B0,hB⟩:∃ A,AObj.cells tD [.int .i64 lb,VB] 0=A:=⟨_,rfl⟩
 have a0:∀ X,loadT ⟨some false,some 1⟩ (A0 :: X) (.pointer (some ⟨0,0,none⟩))=some (.int .i64 la):=fun X=>by rw [← hA];exact obj_load (j:=0) (t:=tD) (c:=[.int .i64 la,VA]) rfl rfl
 have a1:∀ X,loadT ⟨some false,some 1⟩ (A0 :: X) (.pointer (some ⟨0,1,none⟩))=some VA:=fun X=>by rw [← hA];exact obj_load (j:=1) (t:=tD) (c:=[.int .i64 la,VA]) rfl rfl
 have b0:∀ Y X,loadT ⟨some false,some 1⟩ (Y :: B0 :: X) (.pointer (some ⟨1,0,none⟩))=some (.int .i64 lb):=fun Y X=>by rw [← hB];exact obj_load (j:=0) (t:=tD) (c:=[.int .i64 lb,VB]) rfl rfl
 have b1:∀ Y X,loadT ⟨some false,some 1⟩ (Y :: B0 :: X) (.pointer (some ⟨1,1,none⟩))=some VB:=fun Y X=>by rw [← hB];exact obj_load (j:=1) (t:=tD) (c:=[.int .i64 lb,VB]) rfl rfl
 rw [hA] at fla
 rw [hB] at flb
 by_cases h1:la=lb
 case neg=>simp -implicitDefEqProofs [r20,p20,fla,flb,a0,b0,h1,-aBox_eq]
 subst h1
 by_cases hl:pa.length=pb.length
 case neg =>
  have hl':¬ (pa.length:Int)=(pb.length:Int):=by omega
  have hab:¬ pa=pb:=fun q=>hl (by rw [q])
  rw [decide_eq_false hab]
  simp -implicitDefEqProofs [r20,p20,fla,flb,a0,a1,b0,b1,na,nb,hl',-aBox_eq]
 have hl':(pa.length:Int)=(pb.length:Int):=by omega
 rw [decide_eq_true rfl,Bool.true_and,← zip_all hl]
 simp -implicitDefEqProofs [r20,p20,fla,flb,a0,a1,b0,b1,na,nb,hl,-aBox_eq]
 rw [LL_for (γ:=Unit) (pa.zip pb) () (fun i _=>[(5,.int .i64 (i:Int))]) (fun _ _=>[A0,B0]) (fun _ rest _=>if rest.all (fun p=>decide (p.1=p.2)) then (.exit 0,[(5,undef)],[A0,B0]) else (.ret,[(4,.bool false),(5,undef)],[A0,B0])) (fun _ _=>True) (by rw [List.length_zip];omega) trivial]
 ·generalize (pa.zip pb).all (fun p=>decide (p.1=p.2))=B
  cases B with
  | true=>simp -implicitDefEqProofs [k20_4]
  | false=>simp -implicitDefEqProofs [k20_4]
 ·simp -implicitDefEqProofs [k20_4]
 ·rfl
 ·intro nx i c hi _
  have hi2:¬ ((i:Nat):Int)<(pb.length:Int):=by rw [List.length_zip] at hi;omega
  simp -implicitDefEqProofs [r20_4,k20_4,hl,hi2,a1,na,trim_le]
 ·intro nx i p rest u hi hv hd hw _ ih
  have ih:=ih () trivial
  have hi1:i<pa.length:=by rw [List.length_zip] at hi;omega
  have hi2:i<pb.length:=by rw [List.length_zip] at hi;omega
  have hi3:((i:Nat):Int)<(pb.length:Int):=by omega
  have xa:=ia i hi1
  have xb:=ib i hi2
  have hp:p=(pa[i],pb[i]):=by rw [← hv,List.getElem_zip]
  rw [hp]
  have lna:=hla pa[i] (List.getElem_mem hi1)
  have lnb:=hlb pb[i] (List.getElem_mem hi2)
  rw [List.all_cons]
  simp only
  generalize pa[i]=u1 at *
  generalize pb[i]=u2 at *
  rw [phs_eq]
  have sv:=smv_pure (x:=false) (y:=false) u1.vols u2.vols lna.1 lnb.1
  have se:=sme_pure (x:=false) (y:=false) u1.gives u2.gives lna.2 lnb.2
  have fa0:=f0 u1
  have fa1:=f1 u1
  have fb0:=f0 u2
  have fb1:=f1 u2
  have va:=lv u1
  have vb:=lv u2
  have ga:=lg u1
  have gb:=lg u2
  have rva:=rv u1
  have rvb:=rv u2
  have rga:=rg u1
  have rgb:=rg u2
  generalize decide (u1.vols=u2.vols)=DV at *
  generalize decide (u1.gives=u2.gives)=DG at *
  generalize hRA:rest.all (fun p=>decide (p.1=p.2))=RA at *
  generalize phR.val u1=W1 at *
  generalize phR.val u2=W2 at *
  generalize lst false (volR.vals u1.vols)=V1 at *
  generalize lst false (volR.vals u2.vols)=V2 at *
  generalize lst false (entR.vals u1.gives)=G1 at *
  generalize lst false (entR.vals u2.gives)=G2 at *
  simp -implicitDefEqProofs [k20_4] at ih
  cases DV with
  | false=>simp -implicitDefEqProofs [r20_4,k20_4,hl,hi3,a1,b1,na,xa,xb,fa0,fb0,va,vb,rva,rvb,ret0 m25,sv,trim_le]
  | true =>
   cases DG with
   | false=>simp -implicitDefEqProofs [r20_4,k20_4,hl,hi3,a1,b1,na,xa,xb,fa0,fa1,fb0,fb1,va,vb,ga,gb,rva,rvb,rga,rgb,ret0 m25,sv,ret0 m63,se,trim_le]
   | true =>
    simp -implicitDefEqProofs [r20_4,k20_4,hl,hi3,a1,b1,na,xa,xb,fa0,fa1,fb0,fb1,va,vb,ga,gb,rva,rvb,rga,rgb,ret0 m25,sv,ret0 m63,se,hw,trim_le]
    exact ih
end Go.Proofs.YtplebjehcgcdeaaGreatDoor.Bm
namespace Go.Proofs.YtplebjehcgcdeaaGreatDoor.Bm
open Go Go.RowKit
open Dw (Vol Ent Phs Drw readF refF formB)
theorem reads_law (l:List UInt8) (hl:l.length≤9223372036854775807):∃ h',L E 4 [.string ⟨⟨l⟩⟩] [] 0=some (.bool true,h'):=by
 have sm:=small_pure
 have ls:∀ h,lenT .str h (.string ⟨⟨l⟩⟩)=some (.int .i64 l.length):=fun h=>rfl
 have sS:∀ z,settled depth (.string z)=true:=fun z=>rfl
 rw [L_fn F4 rfl]
 by_cases c1:l.length≤4000
 case neg =>
  have c1':4000<(l.length:Int):=by omega
  refine ⟨[],?_⟩
  simp -implicitDefEqProofs [r4,p4,ret0 m11,sm,ls,c1']
 have c1':¬ 4000<(l.length:Int):=by omega
 have qd:=qread_pure l c1
 rw [Dw.ref_read fun x hx=>Dw.form_fit hx] at qd
 cases hr:readF formB l with
 | none =>
  have rd:=read_n l (by omega) hr
  rw [hr] at qd
  have qd:pureCall E.P (L E) 32 [.string ⟨⟨l⟩⟩]=some (.tuple #[.agg #[.int .i64 0,.slice none 0 0],.int .i64 2]):=qd
  have sa:pureCall E.P (L E) 20 [.agg #[.int .i64 0,.slice none 0 0],.agg #[.int .i64 0,.slice none 0 0]]=some (.bool true) :=
   qsame_pure (k:=none) (m:=none) ⟨0,[]⟩ ⟨0,[]⟩ (fun _=>rfl) (fun _=>rfl) (by decide) (by decide) (fun p hp=>by cases hp) (fun p hp=>by cases hp)
  have rz:∀ h,reify E.P 8 h (.agg #[.int .i64 0,.slice none 0 0])=some (.agg #[.int .i64 0,.slice none 0 0]):=fun h=>rfl
  refine ⟨[.cells tD [.int .i64 0,.slice none 0 0] 0,.cells tD [.int .i64 0,.slice none 0 0] 0],?_⟩
  simp -implicitDefEqProofs [r4,p4,ret0 m11,sm,ls,c1',ret1 m31,ret1 m32,sS,rd,qd,ret0 m20,sa,rz,-reify_agg]
 | some d =>
  have rd:=read_v l (by omega) d hr
  rw [hr] at qd
  have qd:pureCall E.P (L E) 32 [.string ⟨⟨l⟩⟩]=some (.tuple #[.agg #[.int .i64 d.lot,phR.o (some false) d.phs],.int .i64 0]):=qd
  obtain ⟨hf,he⟩:=Dw.read_good hr
  have hfit:=Dw.form_fit hf
  have hll:∀ p∈d.phs,Lens p:=fun p hp=>⟨by have:=Dw.mem_len hp;have:=form_all hf;omega,(form_gives hf p hp).1⟩
  have sa:=qsame_pure (k:=some false) (m:=some false) d d Rec.ok_some Rec.ok_some (by have:=hfit.phs;omega) (by have:=hfit.phs;omega) hll hll
  rw [decide_eq_true rfl] at sa
  have sa:pureCall E.P (L E) 20 [.agg #[.int .i64 d.lot,phR.o (some false) d.phs],.agg #[.int .i64 d.lot,phR.o (some false) d.phs]]=some (.bool true):=sa
  have rz:=dr_reify d
  have o1:one (phR.o (some false) d.phs)=true:=Rec.o_one
  have oc:cellsOf (phR.o (some false) d.phs)=some [phR.o (some false) d.phs]:=Rec.o_cellsOf
  generalize phR.o (some false) d.phs=D at *
  refine ⟨[.cells tD [.int .i64 d.lot,D] 0,.cells tD [.int .i64 d.lot,D] 0],?_⟩
  simp -implicitDefEqProofs [r4,p4,ret0 m11,sm,ls,c1',ret1 m31,ret1 m32,sS,rd,qd,ret0 m20,sa,rz,-reify_agg]
end Go.Proofs.YtplebjehcgcdeaaGreatDoor.Bm
