/-
 The volumes of a drawing. Conditions: lists that are not too long.
-/
import Derived.Test.YtplebjehcgcdeaaGreatDoorQU17
import Derived.Test.YtplebjehcgcdeaaGreatDoorQU19
namespace Go.Proofs.YtplebjehcgcdeaaGreatDoor.Bm
open Go Go.RowKit
namespace Rec
variable {α:Type} {R:Rec α}
def o (R:Rec α) (k:Option Bool) (l:List α):Value:=match k with | none=>.slice none 0 0 | some b=>lst b (R.vals l)
def Ok (k:Option Bool) (l:List α):Prop:=k=none→l=[]
theorem ok_some {b:Bool} {l:List α}:Ok (some b) l:=fun h=>by cases h
section
variable {k:Option Bool} {l:List α} {h:Heap}
theorem o_len (hk:Ok k l):lenT .sl h (R.o k l)=some (.int .i64 l.length):=by
 cases k with
 | none=>have:=hk rfl;subst this;rfl
 | some b=>exact tree_len
theorem o_one:one (R.o k l)=true:=by cases k <;> rfl
theorem o_set {n:Nat}:settled (n+1) (R.o k l)=true:=by cases k <;> rfl
theorem o_bel {d n:Nat}:below (d+1) n (R.o k l)=true:=by cases k <;> rfl
theorem o_fits {sz:Option Nat}:fitsTT ⟨some false,sz⟩ (R.o k l)=true:=by cases k <;> rfl
theorem o_reify {P:Program} {n:Nat}:reify P (n+1) h (R.o k l)=some (R.o k l):=by cases k <;> rfl
theorem o_cells1:cellsL (R.o k l)=[R.o k l]:=by cases k <;> rfl
theorem o_cells {s:Nat} (hs:s=R.m+1) (hk:Ok k l):sliceCells h s (R.o k l)=some (R.flat l,l.length):=by
 cases k with
 | none=>have:=hk rfl;subst this;rfl
 | some b=>exact cells_tree hs l
theorem o_index {s i:Nat} {t:TypeId} {kk:IntKind} (hs:s=R.m+1) (hk:Ok k l) (h1:i<l.length):indexAddrT (.sl t ⟨some true,some s⟩) (R.o k l) (.int kk (i:Int))=some (cptr (R.val l[i])):=by
 cases k with
 | none=>have:=hk rfl;subst this;simp at h1
 | some b=>exact index_tree hs h1
end
theorem app_fill {el:El} {h:Heap} {lo b n r:Nat} {t:TypeId} {acc m:List α} {z:α} {u:Value} (hel:el.size=R.m+1) (hob:h[b]?=some (R.row t (acc++List.replicate r z))) (hn:n=acc.length+r)
  (hu:sliceCells h el.size u=some (R.flat m,m.length)) (hlo:lo≤b) (hm:m.length≤r) :
  appendT (some el) h lo false (.slice (some ⟨b,0,some (n * (R.m+1))⟩) acc.length n) u=some (.slice (some ⟨b,0,some (n * (R.m+1))⟩) (acc++m).length n,h.set b (R.row t ((acc++m)++List.replicate (r-m.length) z))):=by
 have hl:(acc++List.replicate r z).length=n:=by rw [List.length_append,List.length_replicate,hn]
 have key:=app_room (i:=acc.length) hel hob hu hlo (by rw [hl,hn];omega)
 rw [hl] at key
 rw [key]
 have e1:(acc++List.replicate r z).take acc.length=acc:=by simp
 have e2:(acc++List.replicate r z).drop (acc.length+m.length)=List.replicate (r-m.length) z:=by
  rw [List.drop_append,List.drop_of_length_le (by omega)];simp
 rw [e1,e2,List.length_append]
theorem slice_none {ix:TypeId} {g:TI} {s:Nat} {h:Heap} {k:IntKind} (hs:g.sz=some s):sliceT (.sl ix g) h (.slice none 0 0) none (some (.int k 0)) none=some (.slice none 0 0):=by
 unfold sliceT
 simp [hs,bound]
theorem slice_row0 {e t:TypeId} {g:Option Bool} {h:Heap} {b n s:Nat} {l:List α} {k:IntKind} (hs:s=R.m+1) (hob:h[b]?=some (R.row t l)) (hn:n=l.length) :
  sliceT (.sl e ⟨g,some s⟩) h (.slice (some ⟨b,0,some (n * (R.m+1))⟩) n n) none (some (.int k 0)) none=some (.slice (some ⟨b,0,some (n * (R.m+1))⟩) 0 n):=by
 subst hs;subst hn
 have hob':h[b]?=some (.cells t (R.flat l) (R.m+1)):=hob
 have hf:fitsRow h ⟨b,0,some (l.length * (R.m+1))⟩ (R.m+1)=true:=by
  unfold fitsRow
  show (match h[b]? with | some (.cells _ c g)=>_ | _=>false)=true
  rw [hob']
  simp [stampOk,flat_len]
 unfold sliceT
 simp [hf,bound,rowSl,shift]
end Rec
end Go.Proofs.YtplebjehcgcdeaaGreatDoor.Bm
namespace Go.Proofs.YtplebjehcgcdeaaGreatDoor.Bm
open Go Go.RowKit
open Dw (RS Vol Ent Phs Drw)
abbrev tV:TypeId:=60
abbrev tE:TypeId:=83
abbrev tP:TypeId:=78
abbrev tD:TypeId:=37
def volR:Rec Vol where
 enc v:=[.int .i64 v.x0,.int .i64 v.y0,.int .i64 v.x1,.int .i64 v.y1,.int .i64 v.z0,.int .i64 v.z1,.int .i64 v.use,.int .i64 v.units,.bool v.extra]
 m:=8
 len _:=rfl
 set _:=rfl
 bel _ _:=rfl
def entR:Rec Ent where
 enc e:=[.string ⟨⟨e.1⟩⟩,.int .i64 e.2]
 m:=1
 len _:=rfl
 set _:=rfl
 bel _ _:=rfl
def phR:Rec Phs where
 enc p:=[lst false (volR.vals p.vols),lst false (entR.vals p.gives)]
 m:=1
 len _:=rfl
 set _:=rfl
 bel _ _:=rfl
def drV (k:Option Bool) (d:Drw):Value:=.agg ⟨[.int .i64 d.lot,phR.o k d.phs]⟩
theorem sVol:szOf E.P tV=some 9:=by kernel_rfl
theorem aVol:aggT E.P tV=some true:=by kernel_rfl
theorem sEnt:szOf E.P tE=some 2:=by kernel_rfl
theorem aEnt:aggT E.P tE=some true:=by kernel_rfl
theorem sPhs:szOf E.P tP=some 2:=by kernel_rfl
theorem aPhs:aggT E.P tP=some true:=by kernel_rfl
theorem below_mono:∀ (d:Nat) {n m:Nat} {v:Value},n≤m→below d n v=true→below d m v=true
 | 0,_,_,_,_,h=>absurd h Bool.false_ne_true
 | d+1,n,m,v,hnm,h=>by
  have ih:∀ l:List Value,l.all (below d n)=true→l.all (below d m)=true:=fun l hl=>List.all_eq_true.2 fun x hx=>below_mono d hnm (List.all_eq_true.1 hl x hx)
  unfold below at h ⊢
  split at h
  ·exact decide_eq_true (by have:=of_decide_eq_true h;omega)
  ·exact decide_eq_true (by have:=of_decide_eq_true h;omega)
  ·exact decide_eq_true (by have:=of_decide_eq_true h;omega)
  ·exact ih _ h
  ·exact ih _ h
  ·rfl
  ·rw [Bool.and_eq_true] at h ⊢; exact ⟨ih _ h.1,ih _ h.2⟩
  ·exact below_mono d hnm h
  ·simp_all
theorem belO_mono {n m:Nat} {o:AObj} (hnm:n≤m) (h:belowO n o=true):belowO m o=true:=by
 unfold belowO at h ⊢
 cases o with
 | cells t c g=>exact List.all_eq_true.2 fun x hx=>below_mono _ hnm (List.all_eq_true.1 h x hx)
 | dead=>rfl
 | map es k =>
  refine List.all_eq_true.2 fun x hx=>?_
  have:=List.all_eq_true.1 h x hx
  rw [Bool.and_eq_true] at this ⊢
  exact ⟨below_mono _ hnm this.1,below_mono _ hnm this.2⟩
abbrev nilP:AObj:=.cells tP [.slice none 0 0,.slice none 0 0] 0
def phC (n:Nat) (v:List Vol) (e:List Ent):AObj:=.cells tP [volR.sl (n+2) v,entR.sl (n+3) e] 0
def PH (g:Heap) (v:List Vol) (e:List Ent):Heap:=g++[nilP,phC g.length v e,volR.row tV v,entR.row tE e]
section
variable {g:Heap} {v:List Vol} {e:List Ent}
theorem PH_len:(PH g v e).length=g.length+4:=by unfold PH;rw [List.length_append];rfl
theorem PH_get {b:Nat} (hb:b<g.length):(PH g v e)[b]?=g[b]?:=List.getElem?_append_left hb
theorem PH_set {b:Nat} {o:AObj} (hb:b<g.length):(PH g v e).set b o=PH (g.set b o) v e:=by
 unfold PH
 rw [List.set_append_left _ _ hb,List.length_set]
theorem PH_at {k:Nat} {X:Heap}:(PH g v e++X)[g.length+k]?=([nilP,phC g.length v e,volR.row tV v,entR.row tE e]++X)[k]?:=by
 unfold PH
 rw [List.append_assoc,List.getElem?_append_right (Nat.le_add_right _ _),Nat.add_sub_cancel_left]
theorem PH_put {k:Nat} {o:AObj} {X:Heap}:(PH g v e++X).set (g.length+k) o=g++([nilP,phC g.length v e,volR.row tV v,entR.row tE e]++X).set k o:=by
 unfold PH
 rw [List.append_assoc,List.set_append_right _ _ (Nat.le_add_right _ _),Nat.add_sub_cancel_left]
theorem PH_all (hg:g.all (belowO g.length)=true):(PH g v e).all (belowO (PH g v e).length)=true:=by
 rw [PH_len]
 unfold PH
 rw [List.all_append,Bool.and_eq_true]
 refine ⟨List.all_eq_true.2 fun x hx=>belO_mono (by omega) (List.all_eq_true.1 hg x hx),?_⟩
 have e1:belowO (g.length+4) (phC g.length v e)=true:=by
  have h1:below 8 (g.length+4) (volR.sl (g.length+2) v)=true:=Rec.sl_bel (by omega)
  have h2:below 8 (g.length+4) (entR.sl (g.length+3) e)=true:=Rec.sl_bel (by omega)
  show ([_,_]:List Value).all (below 8 _)=true
  simp only [List.all_cons,List.all_nil,h1,h2,Bool.and_self]
 have e2:belowO (g.length+4) nilP=true:=rfl
 simp only [List.all_cons,List.all_nil,e1,e2,Rec.row_bel,Bool.and_self]
def dd {α:Type} (R:Rec α) (t:TypeId) (l:List α):AObj:=if l.length=0 then R.row t l else .dead
def PD (g:Heap) (v:List Vol) (e:List Ent):Heap:=g++[nilP,.dead,dd volR tV v,dd entR tE e]
theorem PH_frz {lo:Nat} (hlo:lo≤g.length):freezeV E.P depth lo (PH g v e) (.pointer (some ⟨g.length+1,0,none⟩))=some (cptr (.agg ⟨[lst false (volR.vals v),lst false (entR.vals e)]⟩),PD g v e):=by
 have h1:(PH g v e)[g.length+1]?=some (phC g.length v e):=by
  have:=PH_at (g:=g) (v:=v) (e:=e) (k:=1) (X:=[])
  rw [List.append_nil] at this
  exact this
 have hset:(PH g v e).set (g.length+1) .dead=g++[nilP,.dead,volR.row tV v,entR.row tE e]:=by
  have:=PH_put (g:=g) (v:=v) (e:=e) (k:=1) (o:=.dead) (X:=[])
  rw [List.append_nil] at this
  exact this
 have fv:∀ (X Y:AObj),freezeV E.P 7 lo (g++[nilP,X,volR.row tV v,Y]) (volR.sl (g.length+2) v)=some (lst false (volR.vals v),if v.length=0 then g++[nilP,X,volR.row tV v,Y] else g++[nilP,X,.dead,Y]):=fun X Y=>by
  have ho:(g++[nilP,X,volR.row tV v,Y])[g.length+2]?=some (.cells tV (volR.flat v) (8+1)):=by
   rw [List.getElem?_append_right (Nat.le_add_right _ _),Nat.add_sub_cancel_left];rfl
  have:=frz_agg1 (n:=6) (lo:=lo) (l:=volR.vals v) (len:=v.length) (cap:=v.length) (k:=v.length * 9) ho sVol aVol (by omega) (Rec.vals_flat v).symm (Rec.flat_len (R:=volR) (l:=v)).symm Rec.vals_len.symm (by omega) (Rec.vals_agg v) (Rec.flat_set v)
  refine this.trans ?_
  rw [List.set_append_right _ _ (Nat.le_add_right _ _),Nat.add_sub_cancel_left];rfl
 have fe:∀ (X Y:AObj),freezeV E.P 7 lo (g++[nilP,X,Y,entR.row tE e]) (entR.sl (g.length+3) e)=some (lst false (entR.vals e),if e.length=0 then g++[nilP,X,Y,entR.row tE e] else g++[nilP,X,Y,.dead]):=fun X Y=>by
  have ho:(g++[nilP,X,Y,entR.row tE e])[g.length+3]?=some (.cells tE (entR.flat e) (1+1)):=by
   rw [List.getElem?_append_right (Nat.le_add_right _ _),Nat.add_sub_cancel_left];rfl
  have:=frz_agg1 (n:=6) (lo:=lo) (l:=entR.vals e) (len:=e.length) (cap:=e.length) (k:=e.length * 2) ho sEnt aEnt (by omega) (Rec.vals_flat e).symm (Rec.flat_len (R:=entR) (l:=e)).symm Rec.vals_len.symm (by omega) (Rec.vals_agg e) (Rec.flat_set e)
  refine this.trans ?_
  rw [List.set_append_right _ _ (Nat.le_add_right _ _),Nat.add_sub_cancel_left];rfl
 have key:([volR.sl (g.length+2) v,entR.sl (g.length+3) e]:List Value).foldlM (init:=(([]:List Value),g++[nilP,AObj.dead,volR.row tV v,entR.row tE e])) (fun r x=>(freezeV E.P 7 lo r.2 x).map fun y=>(r.1++[y.1],y.2))=some ([lst false (volR.vals v),lst false (entR.vals e)],PD g v e):=by
  simp only [List.foldlM_cons,List.foldlM_nil,fv,Option.map_some,Option.bind_eq_bind,Option.bind_some,List.nil_append]
  unfold PD dd
  by_cases hv:v.length=0
  ·rw [if_pos hv,if_pos hv,fe]
   by_cases he:e.length=0
   ·rw [if_pos he,if_pos he];rfl
   ·rw [if_neg he,if_neg he];rfl
  ·rw [if_neg hv,if_neg hv,fe]
   by_cases he:e.length=0
   ·rw [if_pos he,if_pos he];rfl
   ·rw [if_neg he,if_neg he];rfl
 rw [frz_ptr8 (t:=tP) h1 sPhs aPhs (by omega),hset,if_neg (by simp [Rec.sl,settled])]
 exact congrArg (Option.map fun r=>(cptr (.agg ⟨r.1⟩),r.2)) key
def PR (g:Heap) (v:List Vol) (e:List Ent):Heap:=g++[.cells tP [lst false (volR.vals v),lst false (entR.vals e)] 0,.dead,dd volR tV v,dd entR tE e]
theorem PD_put {lo:Nat} (hlo:lo≤g.length):storeT (some 2) (PD g v e) lo (.agg ⟨[lst false (volR.vals v),lst false (entR.vals e)]⟩) (.pointer (some ⟨g.length,0,none⟩))=some (PR g v e):=by
 have ho:(PD g v e)[g.length]?=some (.cells tP [.slice none 0 0,.slice none 0 0] 0):=by unfold PD;rw [List.getElem?_append_right (Nat.le_refl _),Nat.sub_self];rfl
 have:=obj_put (n:=2) (lo:=lo) (d:=[lst false (volR.vals v),lst false (entR.vals e)]) ho rfl rfl (by decide) hlo
 unfold cAt at this
 rw [this]
 unfold PD PR
 rw [List.set_append_right _ _ (Nat.le_refl _),Nat.sub_self];rfl
theorem PR_get:loadT ⟨some true,some 2⟩ (PR g v e) (.pointer (some ⟨g.length,0,none⟩))=some (.agg ⟨[lst false (volR.vals v),lst false (entR.vals e)]⟩):=by
 have ho:(PR g v e)[g.length]?=some (.cells tP [lst false (volR.vals v),lst false (entR.vals e)] 0):=by unfold PR;rw [List.getElem?_append_right (Nat.le_refl _),Nat.sub_self];rfl
 exact obj_all (n:=2) ho rfl
theorem PR_len:(PR g v e).length=g.length+4:=by unfold PR;rw [List.length_append];rfl
end
end Go.Proofs.YtplebjehcgcdeaaGreatDoor.Bm
namespace Go.Proofs.YtplebjehcgcdeaaGreatDoor.Bm
open Go Go.RowKit
open Dw (RS Vol Ent Phs Drw numS textS numsS volsL givesL phaseS okNums volOf)
theorem nc1 {h:Heap} {lo:Nat} (hlo:lo≤h.length) (σ:Slots):newcK E.P lo (h++[nilP,nilP]) σ 0 tV (.pointer (some ⟨h.length+1,0,none⟩))=some (σ,h++[nilP,.cells tP [volR.sl (h.length+2) [],.slice none 0 0] 0,volR.row tV []]):=by
 have ho:(h++[nilP,nilP])[h.length+1]?=some (.cells tP [.slice none 0 0,.slice none 0 0] 0):=by
  rw [List.getElem?_append_right (Nat.le_add_right _ _),Nat.add_sub_cancel_left];rfl
 have:=newcK_cell (P:=E.P) (σ:=σ) (lo:=lo) (t:=tV) (d:=0) (off:=0) (n:=8) (sp:=none) (c:=[.slice none 0 0,.slice none 0 0]) ho rfl sVol (by omega)
 rw [this,List.set_append_right _ _ (Nat.le_add_right _ _),Nat.add_sub_cancel_left,List.append_assoc,List.length_append];rfl
theorem nc2 {h:Heap} {lo:Nat} (hlo:lo≤h.length) (σ:Slots):newcK E.P lo (h++[nilP,.cells tP [volR.sl (h.length+2) [],.slice none 0 0] 0,volR.row tV []]) σ 1 tE (.pointer (some ⟨h.length+1,0,none⟩))=some (σ,PH h [] []):=by
 have ho:(h++[nilP,.cells tP [volR.sl (h.length+2) [],.slice none 0 0] 0,volR.row tV []])[h.length+1]?=some (.cells tP [volR.sl (h.length+2) [],.slice none 0 0] 0):=by
  rw [List.getElem?_append_right (Nat.le_add_right _ _),Nat.add_sub_cancel_left];rfl
 have:=newcK_cell (P:=E.P) (σ:=σ) (lo:=lo) (t:=tE) (d:=1) (off:=0) (n:=1) (sp:=none) (c:=[volR.sl (h.length+2) [],.slice none 0 0]) ho rfl sEnt (by omega)
 rw [this,List.set_append_right _ _ (Nat.le_add_right _ _),Nat.add_sub_cancel_left,List.append_assoc,List.length_append];rfl
theorem numsS_bad {s:RS} (h:(numsS s).2.2=true):(numsS s).1=[]:=by
 unfold numsS at h ⊢
 simp only at h ⊢
 split
 ·rfl
 ·rename_i q
  rw [if_neg q] at h
  exact absurd h q
theorem numsS_ok (s:RS):Enc.Ok (kd (numsS s).2.2) (numsS s).1:=by
 intro hk
 unfold kd at hk
 split at hk
 ·exact numsS_bad ‹_›
 ·cases hk
theorem bel_n (n b:Nat) (hb:b<n):below 8 n (.pointer (some ⟨b,0,none⟩))=true:=decide_eq_true hb
theorem lit_vol (h:Heap) (v:Vol):buildSliceT (some ⟨tV,9,72,.agg ⟨[.int .i64 0,.int .i64 0,.int .i64 0,.int .i64 0,.int .i64 0,.int .i64 0,.int .i64 0,.int .i64 0,.bool false]⟩,⟨some true,some 9⟩⟩) false h 1 #[(0,.agg ⟨volR.enc v⟩)]=some (lst true (volR.vals [v]),h) :=
 (build_lit' (n:=1) (l:=[(0,.agg ⟨volR.enc v⟩)]) rfl rfl (by decide) (by decide) (by decide)).trans rfl
theorem lit_ent (h:Heap) (e:Ent):buildSliceT (some ⟨tE,2,24,.agg ⟨[.string ⟨⟨[]⟩⟩,.int .i64 0]⟩,⟨some true,some 2⟩⟩) false h 1 #[(0,.agg ⟨entR.enc e⟩)]=some (lst true (entR.vals [e]),h) :=
 (build_lit' (n:=1) (l:=[(0,.agg ⟨entR.enc e⟩)]) rfl rfl (by decide) (by decide) (by decide)).trans rfl
section
variable {g:Heap} {v:List Vol} {e:List Ent} {lo:Nat}
theorem PH_appV {X:Heap} (x:Vol) (hlo:lo≤g.length) (hv:v.length≤1000):appendT (some ⟨tV,9,72,.agg ⟨[.int .i64 0,.int .i64 0,.int .i64 0,.int .i64 0,.int .i64 0,.int .i64 0,.int .i64 0,.int .i64 0,.bool false]⟩,⟨some true,some 9⟩⟩) (PH g v e++X) lo false (volR.sl (g.length+2) v) (lst true (volR.vals [x])) =
  some (volR.sl (g.length+2) (v++[x]),g++[nilP,phC g.length v e,volR.row tV (v++[x]),entR.row tE e]++X):=by
 have:=Rec.app (R:=volR) (m:=[x]) (lo:=lo) (h:=PH g v e++X) (b:=g.length+2) (acc:=v) (t:=tV) (u:=lst true (volR.vals [x])) (el:=⟨tV,9,72,.agg ⟨[.int .i64 0,.int .i64 0,.int .i64 0,.int .i64 0,.int .i64 0,.int .i64 0,.int .i64 0,.int .i64 0,.bool false]⟩,⟨some true,some 9⟩⟩) rfl (by rw [PH_at];rfl) (Rec.cells_tree (R:=volR) rfl [x]) (by omega) (by show (v.length+1) * 72≤2 ^ 47;omega)
 rw [this,PH_put,List.append_assoc];rfl
theorem PH_stV {X:Heap} {v':List Vol} (hlo:lo≤g.length):storeT (some 1) (g++[nilP,phC g.length v e,volR.row tV v',entR.row tE e]++X) lo (volR.sl (g.length+2) v') (.pointer (some ⟨g.length+1,0,none⟩))=some (PH g v' e++X):=by
 have ho:(g++[nilP,phC g.length v e,volR.row tV v',entR.row tE e]++X)[g.length+1]?=some (phC g.length v e):=by rw [List.append_assoc,List.getElem?_append_right (Nat.le_add_right _ _),Nat.add_sub_cancel_left];rfl
 have:=obj_store (j:=0) (lo:=lo) (v:=volR.sl (g.length+2) v') ho (by simp) (by omega) rfl
 unfold cAt at this
 rw [this,List.append_assoc,List.set_append_right _ _ (Nat.le_add_right _ _),Nat.add_sub_cancel_left]
 unfold PH
 rw [List.append_assoc];rfl
theorem PH_appE {X:Heap} (x:Ent) (hlo:lo≤g.length) (he:e.length≤1000):appendT (some ⟨tE,2,24,.agg ⟨[.string ⟨⟨[]⟩⟩,.int .i64 0]⟩,⟨some true,some 2⟩⟩) (PH g v e++X) lo false (entR.sl (g.length+3) e) (lst true (entR.vals [x])) =
  some (entR.sl (g.length+3) (e++[x]),g++[nilP,phC g.length v e,volR.row tV v,entR.row tE (e++[x])]++X):=by
 have:=Rec.app (R:=entR) (m:=[x]) (lo:=lo) (h:=PH g v e++X) (b:=g.length+3) (acc:=e) (t:=tE) (u:=lst true (entR.vals [x])) (el:=⟨tE,2,24,.agg ⟨[.string ⟨⟨[]⟩⟩,.int .i64 0]⟩,⟨some true,some 2⟩⟩) rfl (by rw [PH_at];rfl) (Rec.cells_tree (R:=entR) rfl [x]) (by omega) (by show (e.length+1) * 24≤2 ^ 47;omega)
 rw [this,PH_put,List.append_assoc];rfl
theorem PH_stE {X:Heap} {e':List Ent} (hlo:lo≤g.length):storeT (some 1) (g++[nilP,phC g.length v e,volR.row tV v,entR.row tE e']++X) lo (entR.sl (g.length+3) e') (.pointer (some ⟨g.length+1,1,none⟩))=some (PH g v e'++X):=by
 have ho:(g++[nilP,phC g.length v e,volR.row tV v,entR.row tE e']++X)[g.length+1]?=some (phC g.length v e):=by rw [List.append_assoc,List.getElem?_append_right (Nat.le_add_right _ _),Nat.add_sub_cancel_left];rfl
 have:=obj_store (j:=1) (lo:=lo) (v:=entR.sl (g.length+3) e') ho (by simp) (by omega) rfl
 unfold cAt at this
 rw [this,List.append_assoc,List.set_append_right _ _ (Nat.le_add_right _ _),Nat.add_sub_cancel_left]
 unfold PH
 rw [List.append_assoc];rfl
theorem PH_ldV {X:Heap} {sz:Option Nat}:loadT ⟨some false,sz⟩ (PH g v e++X) (.pointer (some ⟨g.length+1,0,none⟩))=some (volR.sl (g.length+2) v) :=
 obj_load (j:=0) (t:=tP) (c:=[volR.sl (g.length+2) v,entR.sl (g.length+3) e]) (by rw [PH_at];rfl) rfl
theorem PH_ldE {X:Heap} {sz:Option Nat}:loadT ⟨some false,sz⟩ (PH g v e++X) (.pointer (some ⟨g.length+1,1,none⟩))=some (entR.sl (g.length+3) e) :=
 obj_load (j:=1) (t:=tP) (c:=[volR.sl (g.length+2) v,entR.sl (g.length+3) e]) (by rw [PH_at];rfl) rfl
theorem PH_trim {X:Heap} {σ:List Value} {n:Nat} (hn:n=g.length+4) (hX:X≠[]) (hg:g.all (belowO g.length)=true) (hσ:σ.all (below 8 (g.length+4))=true):trim n σ (PH g v e++X)=PH g v e:=by
 subst hn
 have e1:(PH g v e++X).take (g.length+4)=PH g v e:=List.take_left' PH_len
 have e2:¬ (PH g v e++X).length≤g.length+4:=by
  rw [List.length_append,PH_len]
  have:=List.length_pos_iff.2 hX
  omega
 have:=PH_all (v:=v) (e:=e) hg
 rw [PH_len] at this
 rw [trim_cut e2 hσ (by rw [e1];exact this),e1]
end
section
variable {a0 a1 a2 a3 a4 a5 a6 a7 a8:Int}
abbrev nine (a0 a1 a2 a3 a4 a5 a6 a7 a8:Int):Value:=intE.o (some false) [a0,a1,a2,a3,a4,a5,a6,a7,a8]
theorem nine0:indexAddrT (.sl 3 ⟨some false,some 1⟩) (nine a0 a1 a2 a3 a4 a5 a6 a7 a8) (.int .i64 0)=some (cptr (.int .i64 a0)):=rfl
theorem nine1:indexAddrT (.sl 3 ⟨some false,some 1⟩) (nine a0 a1 a2 a3 a4 a5 a6 a7 a8) (.int .i64 1)=some (cptr (.int .i64 a1)):=rfl
theorem nine2:indexAddrT (.sl 3 ⟨some false,some 1⟩) (nine a0 a1 a2 a3 a4 a5 a6 a7 a8) (.int .i64 2)=some (cptr (.int .i64 a2)):=rfl
theorem nine3:indexAddrT (.sl 3 ⟨some false,some 1⟩) (nine a0 a1 a2 a3 a4 a5 a6 a7 a8) (.int .i64 3)=some (cptr (.int .i64 a3)):=rfl
theorem nine4:indexAddrT (.sl 3 ⟨some false,some 1⟩) (nine a0 a1 a2 a3 a4 a5 a6 a7 a8) (.int .i64 4)=some (cptr (.int .i64 a4)):=rfl
theorem nine5:indexAddrT (.sl 3 ⟨some false,some 1⟩) (nine a0 a1 a2 a3 a4 a5 a6 a7 a8) (.int .i64 5)=some (cptr (.int .i64 a5)):=rfl
theorem nine6:indexAddrT (.sl 3 ⟨some false,some 1⟩) (nine a0 a1 a2 a3 a4 a5 a6 a7 a8) (.int .i64 6)=some (cptr (.int .i64 a6)):=rfl
theorem nine7:indexAddrT (.sl 3 ⟨some false,some 1⟩) (nine a0 a1 a2 a3 a4 a5 a6 a7 a8) (.int .i64 7)=some (cptr (.int .i64 a7)):=rfl
theorem nine8:indexAddrT (.sl 3 ⟨some false,some 1⟩) (nine a0 a1 a2 a3 a4 a5 a6 a7 a8) (.int .i64 8)=some (cptr (.int .i64 a8)):=rfl
theorem nine_len {h:Heap}:lenT .sl h (nine a0 a1 a2 a3 a4 a5 a6 a7 a8)=some (.int .i64 9):=rfl
theorem bld4:buildT (.fs ⟨[.int .i64 0,.int .i64 0,.int .i64 0,.int .i64 0]⟩ ⟨[(0,1),(1,1),(2,1),(3,1)]⟩) #[(0,.int .i64 a0),(1,.int .i64 a1),(2,.int .i64 a2),(3,.int .i64 a3)]=some (.agg ⟨[.int .i64 a0,.int .i64 a1,.int .i64 a2,.int .i64 a3]⟩):=by kernel_rfl
theorem bld6:buildT (.fs ⟨[.int .i64 0,.int .i64 0,.int .i64 0,.int .i64 0,.int .i64 0,.int .i64 0]⟩ ⟨[(0,4),(4,1),(5,1)]⟩) #[(0,.agg ⟨[.int .i64 a0,.int .i64 a1,.int .i64 a2,.int .i64 a3]⟩),(1,.int .i64 a4),(2,.int .i64 a5)]=some (.agg ⟨[.int .i64 a0,.int .i64 a1,.int .i64 a2,.int .i64 a3,.int .i64 a4,.int .i64 a5]⟩):=by kernel_rfl
theorem bld9 {x:Bool}:buildT (.fs ⟨[.int .i64 0,.int .i64 0,.int .i64 0,.int .i64 0,.int .i64 0,.int .i64 0,.int .i64 0,.int .i64 0,.bool false]⟩ ⟨[(0,6),(6,1),(7,1),(8,1)]⟩) #[(0,.agg ⟨[.int .i64 a0,.int .i64 a1,.int .i64 a2,.int .i64 a3,.int .i64 a4,.int .i64 a5]⟩),(1,.int .i64 a6),(2,.int .i64 a7),(3,.bool x)]=some (.agg ⟨volR.enc ⟨a0,a1,a2,a3,a4,a5,a6,a7,x⟩⟩):=by cases x <;> kernel_rfl
theorem bldE {s:ByteArray} {z:Int}:buildT (.fs ⟨[.string ⟨⟨[]⟩⟩,.int .i64 0]⟩ ⟨[(0,1),(1,1)]⟩) #[(0,.string s),(1,.int .i64 z)]=some (.agg ⟨[.string s,.int .i64 z]⟩):=by kernel_rfl
end
section
variable {g:Heap} {lo:Nat} {t:TypeId} {c d:List Value} {n:Nat}
theorem snoc_put (hc:c.length=n) (hd:d.length=n) (h0:0<n) (hlo:lo≤g.length):storeT (some n) (g++[.cells t c 0]) lo (.agg ⟨d⟩) (.pointer (some ⟨g.length,0,none⟩))=some (g++[.cells t d 0]):=by
 have ho:(g++[AObj.cells t c 0])[g.length]?=some (.cells t c 0):=by rw [List.getElem?_append_right (Nat.le_refl _),Nat.sub_self];rfl
 have:=obj_put (n:=n) (lo:=lo) (d:=d) ho hc hd h0 hlo
 unfold cAt at this
 rw [this,List.set_append_right _ _ (Nat.le_refl _),Nat.sub_self];rfl
theorem snoc_all (hc:c.length=n):loadT ⟨some true,some n⟩ (g++[.cells t c 0]) (.pointer (some ⟨g.length,0,none⟩))=some (.agg ⟨c⟩):=by
 have ho:(g++[AObj.cells t c 0])[g.length]?=some (.cells t c 0):=by rw [List.getElem?_append_right (Nat.le_refl _),Nat.sub_self];rfl
 exact obj_all (n:=n) ho hc
end
theorem phC_same {n:Nat} {v:List Vol} {e:List Ent}:sameO (some (phC n v e)) (some (phC n v e))=true:=sameO_two
theorem phC_bel {n:Nat} {v:List Vol} {e:List Ent}:belowO (n+4) (phC n v e)=true:=by
 have h1:below 8 (n+4) (volR.sl (n+2) v)=true:=Rec.sl_bel (by omega)
 have h2:below 8 (n+4) (entR.sl (n+3) e)=true:=Rec.sl_bel (by omega)
 show ([_,_]:List Value).all (below 8 _)=true
 simp only [List.all_cons,List.all_nil,h1,h2,Bool.and_self]
theorem PH_cell {g:Heap} {v:List Vol} {e:List Ent}:(PH g v e)[g.length+1]?=some (phC g.length v e):=by
 have:=PH_at (g:=g) (v:=v) (e:=e) (k:=1) (X:=[])
 rw [List.append_nil] at this
 exact this
end Go.Proofs.YtplebjehcgcdeaaGreatDoor.Bm
namespace Go.Proofs.YtplebjehcgcdeaaGreatDoor.Bm
open Go Go.RowKit
open Dw (RS Vol Ent Phs Drw numS textS numsS volsL givesL phaseS okNums volOf)
theorem volsL_len:∀ (n:Nat) (s:RS) (out:List Vol),(volsL n s out).2.2.1.length≤s.1.length
 | 0,s,out=>Nat.le_refl _
 | n+1,s,out=>by
  unfold volsL
  have h2:=numsS_len s
  split
  ·have h1:=volsL_len n (numsS s).2 (out++[volOf (numsS s).1])
   omega
  ·exact h2
set_option maxHeartbeats 2000000 in
theorem phase_key {h:Heap} {b lo:Nat} {s:RS} (hob:h[b]?=some (rdC tW s)) (hlo:lo≤b) (hl:s.1.length≤100000) (hbl:h.all (belowO h.length)=true) :
  L E 86 [rdP b] h lo=some (.tuple ⟨[.agg ⟨phR.enc (phaseS s).1⟩,.bool (phaseS s).2.1]⟩,PR (h.set b (rdC tW (phaseS s).2.2)) (phaseS s).1.vols (phaseS s).1.gives):=by
 have hb:=ob_lt hob
 have eg:∀ s,(h.set b (rdC tW s)).length=h.length:=fun s=>List.length_set
 have h1:(PH h [] [])[b]?=some (rdC tW s):=by rw [PH_get hb];exact hob
 have n1:=num_spec h1 hlo (by omega)
 rw [PH_set hb] at n1
 have c1:=fun σ=>nc1 (h:=h) (lo:=lo) (by omega) σ
 have c2:=fun σ=>nc2 (h:=h) (lo:=lo) (by omega) σ
 have hge:=Dw.numS_ge (e:=59) (least:=0) (s:=s) (Int.le_refl _)
 have hle:=numS_len (e:=59) (least:=0) s
 rw [L_fn F86 rfl]
 unfold phaseS
 generalize numS 59 0 s=a at *
 obtain ⟨z,s1⟩:=a
 obtain ⟨n,rfl⟩:∃ n:Nat,z=n:=⟨z.toNat,(Int.toNat_of_nonneg hge).symm⟩
 simp only [Int.toNat_natCast] at *
 have fz:∀ s v e,freezeV E.P depth lo (PH (h.set b (rdC tW s)) v e) (.pointer (some ⟨h.length+1,0,none⟩))=some (cptr (.agg ⟨[lst false (volR.vals v),lst false (entR.vals e)]⟩),PD (h.set b (rdC tW s)) v e):=fun s v e=>by
  have:=PH_frz (g:=h.set b (rdC tW s)) (v:=v) (e:=e) (lo:=lo) (by rw [eg];omega)
  rwa [eg] at this
 have pu:∀ s v e,storeT (some 2) (PD (h.set b (rdC tW s)) v e) lo (.agg ⟨[lst false (volR.vals v),lst false (entR.vals e)]⟩) (.pointer (some ⟨h.length,0,none⟩))=some (PR (h.set b (rdC tW s)) v e):=fun s v e=>by
  have:=PD_put (g:=h.set b (rdC tW s)) (v:=v) (e:=e) (lo:=lo) (by rw [eg];omega)
  rwa [eg] at this
 have ge:∀ s v e,loadT ⟨some true,some 2⟩ (PR (h.set b (rdC tW s)) v e) (.pointer (some ⟨h.length,0,none⟩))=some (.agg ⟨[lst false (volR.vals v),lst false (entR.vals e)]⟩):=fun s v e=>by
  have:=PR_get (g:=h.set b (rdC tW s)) (v:=v) (e:=e)
  rwa [eg] at this
 have pe:∀ v e,phR.enc ⟨v,e⟩=[lst false (volR.vals v),lst false (entR.vals e)]:=fun _ _=>rfl
 by_cases q1:(40:Int)<n
 ·rw [if_pos q1]
  simp -implicitDefEqProofs [r86,p86,prep_newc,c1,c2,n1,q1,prep_frz,fz,pu,ge,pe,-Int.natCast_add,-Int.natCast_mul]
 ·rw [if_neg q1]
  have hn40:n≤40:=by omega
  simp -implicitDefEqProofs [r86,p86,prep_newc,c1,c2,n1,q1,-Int.natCast_add,-Int.natCast_mul]
  rw [LL_rec (α:=RS × Nat × List Vol) (s1,0,[]) (fun a=>[(15,.int .i64 (a.2.1:Int))]) (fun a=>PH (h.set b (rdC tW a.1)) a.2.2 [])
   (fun a=>if (volsL (n-a.2.1) a.1 a.2.2).2.1 then (.exit 0,[(15,undef)],PH (h.set b (rdC tW (volsL (n-a.2.1) a.1 a.2.2).2.2)) (volsL (n-a.2.1) a.1 a.2.2).1 [])
    else (.ret,[(3,.bool false),(4,cptr (.agg ⟨[lst false (volR.vals (volsL (n-a.2.1) a.1 a.2.2).1),lst false (entR.vals [])]⟩)),(15,undef)],PR (h.set b (rdC tW (volsL (n-a.2.1) a.1 a.2.2).2.2)) (volsL (n-a.2.1) a.1 a.2.2).1 []))
   (fun a=>a.1.1.length≤100000∧a.2.1≤n∧a.2.2.length=a.2.1) (fun a=>n-a.2.1) ⟨by simp only;omega,Nat.zero_le _,rfl⟩]
  ·rw [Nat.sub_zero]
   have hvl:=volsL_len n s1 []
   generalize volsL n s1 []=V at *
   obtain ⟨vs,ok,s2⟩:=V
   simp only at hvl ⊢
   cases ok with
   | false =>
    simp -implicitDefEqProofs [k86_6,ge,pe,-Int.natCast_add]
   | true =>
    have h2:(PH (h.set b (rdC tW s2)) vs [])[b]?=some (rdC tW s2):=by rw [PH_get (by rw [eg];exact hb)];exact rd_get s2 hb
    have n2:=num_spec (lo:=lo) h2 hlo (by omega)
    rw [PH_set (by rw [eg];exact hb),List.set_set] at n2
    have hge2:=Dw.numS_ge (e:=59) (least:=0) (s:=s2) (Int.le_refl _)
    have hle2:=numS_len (e:=59) (least:=0) s2
    simp only [if_true]
    generalize numS 59 0 s2=a at *
    obtain ⟨z,s4⟩:=a
    obtain ⟨m,rfl⟩:∃ n:Nat,z=n:=⟨z.toNat,(Int.toNat_of_nonneg hge2).symm⟩
    simp only [Int.toNat_natCast] at *
    by_cases q2:(30:Int)<m
    ·rw [if_pos q2]
     simp -implicitDefEqProofs [k86_6,n2,q2,prep_frz,fz,pu,ge,pe,-Int.natCast_add]
    ·rw [if_neg q2]
     have hm30:m≤30:=by omega
     simp -implicitDefEqProofs [k86_6,n2,q2,-Int.natCast_add]
     rw [LL_rec (α:=RS × Nat × List Ent) (s4,0,[]) (fun a=>[(79,.int .i64 (a.2.1:Int))]) (fun a=>PH (h.set b (rdC tW a.1)) vs a.2.2)
      (fun a=>(.exit 2,[(79,undef)],PH (h.set b (rdC tW (givesL (m-a.2.1) a.1 a.2.2).2)) vs (givesL (m-a.2.1) a.1 a.2.2).1))
      (fun a=>a.1.1.length≤100000∧a.2.1≤m∧a.2.2.length=a.2.1) (fun a=>m-a.2.1) ⟨by simp only;omega,Nat.zero_le _,rfl⟩]
     ·rw [Nat.sub_zero]
      generalize givesL m s4 []=W at *
      simp -implicitDefEqProofs [k86_17,prep_frz,fz,pu,ge,pe,-Int.natCast_add]
     ·simp -implicitDefEqProofs [k86_17]
     ·rfl
     ·rintro nx ⟨s5,j,es⟩ ⟨hj1,hj2,hj3⟩ ih
      simp only at hj1 hj2 hj3
      by_cases hj:j<m
      ·have hjj:((j:Nat):Int)<(m:Int):=by omega
       have h5:(PH (h.set b (rdC tW s5)) vs es)[b]?=some (rdC tW s5):=by rw [PH_get (by rw [eg];exact hb)];exact rd_get s5 hb
       have tx:=text_spec (lo:=lo) h5 hlo (by omega)
       rw [PH_set (by rw [eg];exact hb),List.set_set] at tx
       have htl:=textS_len s5
       have eR:givesL (m-j) s5 es=givesL (m-(j+1)) (numS 59 0 (textS s5).2).2 (es++[((textS s5).1,(numS 59 0 (textS s5).2).1)]):=by
        rw [show m-j=(m-(j+1))+1 by omega];rfl
       rw [eR]
       generalize textS s5=u at *
       obtain ⟨t,s6⟩:=u
       simp only at *
       have h6:(PH (h.set b (rdC tW s6)) vs es)[b]?=some (rdC tW s6):=by rw [PH_get (by rw [eg];exact hb)];exact rd_get s6 hb
       have nm:=num_spec (lo:=lo) h6 hlo (by omega)
       rw [PH_set (by rw [eg];exact hb),List.set_set] at nm
       have hnl:=numS_len (e:=59) (least:=0) s6
       generalize numS 59 0 s6=u at *
       obtain ⟨z,s7⟩:=u
       simp only at *
       have dE:=PH_ldE (g:=h.set b (rdC tW s6)) (v:=vs) (e:=es) (X:=[]) (sz:=some 1)
       have li:=fun h=>lit_ent h (t,z)
       have bE:buildT (.fs ⟨[.string ⟨⟨[]⟩⟩,.int .i64 0]⟩ ⟨[(0,1),(1,1)]⟩) #[(0,.string ⟨⟨t⟩⟩),(1,.int .i64 z)]=some (.agg ⟨entR.enc (t,z)⟩):=bldE
       have ap:=PH_appE (g:=h.set b (rdC tW s7)) (v:=vs) (e:=es) (lo:=lo) (X:=[]) (t,z) (by rw [eg];omega) (by omega)
       have sE:=PH_stE (g:=h.set b (rdC tW s7)) (v:=vs) (e:=es) (lo:=lo) (X:=[]) (e':=es++[(t,z)]) (by rw [eg];omega)
       rw [eg] at dE ap sE
       simp only [List.append_nil] at dE ap sE
       have lenP:∀ s v e,(PH (h.set b (rdC tW s)) v e).length=h.length+4:=fun s v e=>by rw [PH_len,eg]
       have w1:IntKind.i64.wrap ((j:Int)+1)=((j+1:Nat):Int):=wrap64 (by omega) (by omega)
       have ih:=ih (s7,j+1,es++[(t,z)]) (by simp only;omega) ⟨by simp only;omega,by simp only;omega,by simp [hj3]⟩
       generalize givesL (m-(j+1)) s7 (es++[(t,z)])=q at *
       simp -implicitDefEqProofs [k86_17,-Int.natCast_add] at ih
       have gP:∀ s,(PH (h.set b (rdC tW s)) vs es)[h.length+1]?=some (phC h.length vs es):=fun s=>by
        have:=PH_cell (g:=h.set b (rdC tW s)) (v:=vs) (e:=es)
        rwa [eg] at this
       have cB:∀ σ,slot σ 4=.pointer (some ⟨h.length+1,0,none⟩)→calmB 4 σ (PH (h.set b (rdC tW s6)) vs es)=some (h.length+1,h.length+4):=fun σ hσ=>by
        have:=calmB_ptr (h:=PH (h.set b (rdC tW s6)) vs es) hσ (by rw [lenP];omega)
        rwa [lenP] at this
       have cR:∀ (k:TI) (a:Operand) (ρ:Operand→Value),ρ a=.pointer (some ⟨h.length+1,1,none⟩)→calmR (h.length+1,h.length+4) (PH (h.set b (rdC tW s6)) vs es) (.load k a) ρ=true:=fun k a ρ ha=>calmR_load ha rfl (gP s6) phC_bel
       simp -implicitDefEqProofs [r86_17,k86_17,hjj,tx,prep_still,prep_calm,dE,nm,bE,li,ap,sE,lenP,trim_le,w1,cB,cR,gP,phC_same,nextQ_race,-getElem?_pos,-Int.natCast_add]
       exact ih
      ·have e0:m-j=0:=by omega
       have hjj:¬ ((j:Nat):Int)<(m:Int):=by omega
       rw [e0]
       simp -implicitDefEqProofs [r86_17,k86_17,hjj,givesL,trim_le,-Int.natCast_add]
  ·simp -implicitDefEqProofs [k86_6]
  ·rfl
  ·rintro nx ⟨s2,i,out⟩ ⟨hi1,hi2,hi3⟩ ih
   simp only at hi1 hi2 hi3
   have gb:(h.set b (rdC tW s2)).all (belowO (h.set b (rdC tW s2)).length)=true:=by rw [eg];exact rd_all _ hbl
   have h2:(PH (h.set b (rdC tW s2)) out [])[b]?=some (rdC tW s2):=by rw [PH_get (by rw [eg];exact hb)];exact rd_get s2 hb
   by_cases hi:i<n
   ·have hii:((i:Nat):Int)<(n:Int):=by omega
    have ns:=nums_spec (lo:=lo) h2 hlo hi1 (PH_all gb)
    rw [PH_set (by rw [eg];exact hb),List.set_set] at ns
    have hok:=numsS_ok s2
    have hlen:=numsS_len s2
    have eR:volsL (n-i) s2 out=if okNums (numsS s2).1 then volsL (n-(i+1)) (numsS s2).2 (out++[volOf (numsS s2).1]) else (out,false,(numsS s2).2):=by
     rw [show n-i=(n-(i+1))+1 by omega];rfl
    rw [eR]
    simp only at ih
    generalize numsS s2=a at *
    obtain ⟨l,s3⟩:=a
    simp only at *
    have ll:∀ h,lenT .sl h (intE.o (kd s3.2) l)=some (.int .i64 l.length):=fun h=>Enc.o_len (h:=h) hok
    have lenP:∀ s v e,(PH (h.set b (rdC tW s)) v e).length=h.length+4:=fun s v e=>by rw [PH_len,eg]
    have lenR:∀ s v e,(PR (h.set b (rdC tW s)) v e).length=h.length+4:=fun s v e=>by rw [PR_len,eg]
    have w1:IntKind.i64.wrap ((i:Int)+1)=((i+1:Nat):Int):=wrap64 (by omega) (by omega)
    by_cases h9:l.length=9
    ·match l,h9 with
     | [a0,a1,a2,a3,a4,a5,a6,a7,a8],_ =>
      have hk:kd s3.2=some false:=by
       cases hq:s3.2 with
       | false=>rfl
       | true =>
        rw [hq] at hok
        exact absurd (hok rfl) (by simp)
      rw [hk] at ns ll
      have eok:okNums [a0,a1,a2,a3,a4,a5,a6,a7,a8]=(decide (a8=0) || decide (a8=1)):=rfl
      have evol:volOf [a0,a1,a2,a3,a4,a5,a6,a7,a8]=⟨a0,a1,a2,a3,a4,a5,a6,a7,decide (a8=1)⟩:=rfl
      rw [eok,evol]
      by_cases hgood:a8=0∨a8=1
      ·have hg2:(decide (a8=0) || decide (a8=1))=true:=by simpa using hgood
       rw [if_pos hg2]
       have s7:=snoc_put (g:=PH (h.set b (rdC tW s3)) out []) (lo:=lo) (t:=56) (n:=4) (c:=[.int .i64 0,.int .i64 0,.int .i64 0,.int .i64 0]) (d:=[.int .i64 a0,.int .i64 a1,.int .i64 a2,.int .i64 a3]) rfl rfl (by decide) (by rw [lenP];omega)
       have d7:=snoc_all (g:=PH (h.set b (rdC tW s3)) out []) (t:=56) (n:=4) (c:=[.int .i64 a0,.int .i64 a1,.int .i64 a2,.int .i64 a3]) rfl
       rw [lenP] at s7 d7
       have dV:=PH_ldV (g:=h.set b (rdC tW s3)) (v:=out) (e:=[]) (X:=[.cells 56 [.int .i64 a0,.int .i64 a1,.int .i64 a2,.int .i64 a3] 0]) (sz:=some 1)
       have li:=fun h=>lit_vol h ⟨a0,a1,a2,a3,a4,a5,a6,a7,decide (a8=1)⟩
       have ap:=PH_appV (g:=h.set b (rdC tW s3)) (v:=out) (e:=[]) (lo:=lo) (X:=[.cells 56 [.int .i64 a0,.int .i64 a1,.int .i64 a2,.int .i64 a3] 0]) ⟨a0,a1,a2,a3,a4,a5,a6,a7,decide (a8=1)⟩ (by rw [eg];omega) (by omega)
       have sV:=PH_stV (g:=h.set b (rdC tW s3)) (v:=out) (e:=[]) (lo:=lo) (X:=[.cells 56 [.int .i64 a0,.int .i64 a1,.int .i64 a2,.int .i64 a3] 0]) (v':=out++[⟨a0,a1,a2,a3,a4,a5,a6,a7,decide (a8=1)⟩]) (by rw [eg];omega)
       have gb3:(h.set b (rdC tW s3)).all (belowO (h.set b (rdC tW s3)).length)=true:=by rw [eg];exact rd_all _ hbl
       have tr:=fun σ hσ=>PH_trim (g:=h.set b (rdC tW s3)) (v:=out++[⟨a0,a1,a2,a3,a4,a5,a6,a7,decide (a8=1)⟩]) (e:=[]) (X:=[.cells 56 [.int .i64 a0,.int .i64 a1,.int .i64 a2,.int .i64 a3] 0]) (σ:=σ) (n:=h.length+4) (by rw [eg]) (by simp) gb3 hσ
       rw [eg] at dV ap sV tr
       have pb:=bel_n (h.length+4) b (by omega)
       have p0:=bel_n (h.length+4) h.length (by omega)
       have p1:=bel_n (h.length+4) (h.length+1) (by omega)
       have ih:=ih (s3,i+1,out++[⟨a0,a1,a2,a3,a4,a5,a6,a7,decide (a8=1)⟩]) (by simp only;omega) ⟨by simp only;omega,by simp only;omega,by simp [hi3]⟩
       generalize volsL (n-(i+1)) s3 (out++[⟨a0,a1,a2,a3,a4,a5,a6,a7,decide (a8=1)⟩])=q at *
       generalize hV:(⟨a0,a1,a2,a3,a4,a5,a6,a7,decide (a8=1)⟩:Vol)=vv at *
       simp -implicitDefEqProofs [k86_6,-Int.natCast_add] at ih
       rcases hgood with rfl | rfl
       ·rw [show decide ((0:Int)=1)=false from rfl] at hV
        simp -implicitDefEqProofs [r86_6,k86_6,hii,ns,nine_len,nine0,nine1,nine2,nine3,nine4,nine5,nine6,nine7,nine8,bld4,bld6,bld9,lenP,s7,d7,dV,li,ap,sV,tr,pb,p0,p1,w1,hV,-Int.natCast_add,-List.append_assoc]
        exact ih
       ·rw [show decide ((1:Int)=1)=true from rfl] at hV
        simp -implicitDefEqProofs [r86_6,k86_6,hii,ns,nine_len,nine0,nine1,nine2,nine3,nine4,nine5,nine6,nine7,nine8,bld4,bld6,bld9,lenP,s7,d7,dV,li,ap,sV,tr,pb,p0,p1,w1,hV,-Int.natCast_add,-List.append_assoc]
        exact ih
      ·have g0:¬ a8=0:=fun q=>hgood (.inl q)
       have g1:¬ a8=1:=fun q=>hgood (.inr q)
       have hg2:¬ ((decide (a8=0) || decide (a8=1))=true):=by simp [g0,g1]
       rw [if_neg hg2,if_neg (by simp)]
       simp -implicitDefEqProofs [r86_6,k86_6,hii,ns,nine_len,nine8,g0,g1,prep_frz,fz,pu,lenP,lenR,trim_le,-Int.natCast_add]
    ·have h9':¬ (l.length:Int)=9:=by omega
     have eok:okNums l=false:=by unfold okNums;simp [h9]
     rw [eok,if_neg (by simp),if_neg (by simp)]
     simp -implicitDefEqProofs [r86_6,k86_6,hii,ns,ll,h9',prep_frz,fz,pu,lenP,lenR,trim_le,-Int.natCast_add]
   ·have e0:n-i=0:=by omega
    have hii:¬ ((i:Nat):Int)<(n:Int):=by omega
    rw [e0]
    simp -implicitDefEqProofs [r86_6,k86_6,hii,volsL,trim_le,-Int.natCast_add]
theorem phase_spec {h:Heap} {b lo:Nat} {s:RS} (hob:h[b]?=some (rdC tW s)) (hlo:lo≤b) (hl:s.1.length≤100000) (hbl:h.all (belowO h.length)=true) :
  retCall E (L E) lo false 86 [rdP b] h=some (.tuple ⟨[.agg ⟨phR.enc (phaseS s).1⟩,.bool (phaseS s).2.1]⟩,h.set b (rdC tW (phaseS s).2.2)):=by
 have e:(h.set b (rdC tW (phaseS s).2.2)).length=h.length:=List.length_set
 rw [ret3t m86,phase_key hob hlo hl hbl,Option.map_some]
 unfold PR
 rw [trim_cut (by rw [List.length_append,e];simp) rfl (by rw [List.take_left' e];exact rd_all _ hbl),List.take_left' e]
end Go.Proofs.YtplebjehcgcdeaaGreatDoor.Bm
namespace Go.Proofs.YtplebjehcgcdeaaGreatDoor.Bm
open Go Go.RowKit
open Dw (letB digB ldB wordB nameB resW blanks)
theorem letter_pure (c:UInt8):pureCall E.P (L E) 174 [.int .u8 c.toNat]=some (.bool (letB c)):=by
 rw [pureCall_fn F174 rfl]
 unfold letB
 have e1:((97:Int)≤(c.toNat:Int))↔97≤c.toNat:=by omega
 have e2:((c.toNat:Int)≤122)↔c.toNat≤122:=by omega
 by_cases h:97≤c.toNat
 ·have h':=e1.2 h
  simp -implicitDefEqProofs [r174,padS,h,h',e2]
 ·have h':¬ ((97:Int)≤(c.toNat:Int)):=fun q=>h (e1.1 q)
  simp -implicitDefEqProofs [r174,padS,h,h']
theorem digit_pure (c:UInt8):pureCall E.P (L E) 177 [.int .u8 c.toNat]=some (.bool (digB c)):=by
 rw [pureCall_fn F177 rfl]
 unfold digB
 have e1:((48:Int)≤(c.toNat:Int))↔48≤c.toNat:=by omega
 have e2:((c.toNat:Int)≤57)↔c.toNat≤57:=by omega
 by_cases h:48≤c.toNat
 ·have h':=e1.2 h
  simp -implicitDefEqProofs [r177,padS,h,h',e2]
 ·have h':¬ ((48:Int)≤(c.toNat:Int)):=fun q=>h (e1.1 q)
  simp -implicitDefEqProofs [r177,padS,h,h']
theorem ld_pure (c:UInt8):pureCall E.P (L E) 176 [.int .u8 c.toNat]=some (.bool (ldB c)):=by
 have h1:=letter_pure c
 have h2:=digit_pure c
 rw [pureCall_fn F176 rfl]
 unfold ldB
 cases h:letB c with
 | true=>simp -implicitDefEqProofs [r176,padS,ret0 m174,h1,h]
 | false=>simp -implicitDefEqProofs [r176,padS,ret0 m174,ret0 m177,h1,h2,h]
def spanN:List UInt8→Nat
 | []=>0
 | c :: r=>if ldB c then spanN r+1 else 0
theorem spanN_all:∀ {l:List UInt8},spanN l≤l.length∧(spanN l=l.length↔l.all ldB=true)
 | []=>by simp [spanN]
 | c :: r=>by
  have ih:=spanN_all (l:=r)
  unfold spanN
  rw [List.all_cons]
  cases h:ldB c with
  | true =>
   rw [if_pos rfl,Bool.true_and,List.length_cons]
   exact ⟨by omega,by rw [← ih.2];omega⟩
  | false =>
   rw [if_neg (by simp),Bool.false_and,List.length_cons]
   exact ⟨by omega,⟨fun q=>by omega,fun q=>by cases q⟩⟩
theorem span_pure (l:List UInt8) (hl:l.length≤1000000):pureCall E.P (L E) 175 [.string ⟨⟨l⟩⟩,.func (.func 176) #[] #[]]=some (.int .i64 (spanN l)):=by
 rw [pureCall_fn F175 rfl]
 simp -implicitDefEqProofs [r175,padS]
 rw [LL_for (γ:=Unit) l () (fun i _=>[(5,.int .i64 (i:Int))]) (fun _ _=>[]) (fun i rest _=>(.exit 0,[(5,.int .i64 ((i+spanN rest:Nat):Int))],[])) (fun _ _=>True) (by omega) trivial]
 ·simp -implicitDefEqProofs [k175_2]
 ·simp -implicitDefEqProofs [k175_2]
 ·rfl
 ·intro nx i c hi _
  simp -implicitDefEqProofs [r175_2,k175_2,hi,str_size,trim_le,spanN]
 ·intro nx i c rest u hi hv hd hw _ ih
  have ih:=ih () trivial
  have ci:=ld_pure c
  have ix:=sv_idx (k:=.i64) hi
  rw [hv] at ix
  have hii:((i:Nat):Int)<(l.length:Int):=by omega
  unfold spanN
  simp -implicitDefEqProofs [k175_2] at ih
  cases h:ldB c with
  | true =>
   have e:i+(spanN rest+1)=i+1+spanN rest:=by omega
   rw [if_pos rfl,e]
   simp -implicitDefEqProofs [r175_2,k175_2,hii,str_size,ix,ret0 m176,ci,h,hw,trim_le]
   exact ih
  | false =>
   simp -implicitDefEqProofs [r175_2,k175_2,hii,str_size,ix,ret0 m176,ci,h,trim_le]
theorem word_pure (l:List UInt8) (hl:l.length≤1000000):pureCall E.P (L E) 132 [.string ⟨⟨l⟩⟩]=some (.bool (wordB l)):=by
 rw [pureCall_fn F132 rfl]
 cases l with
 | nil=>simp -implicitDefEqProofs [r132,p132,wordB]
 | cons c r =>
  have lc:=letter_pure c
  have sp:=span_pure (c :: r) hl
  have hs:=spanN_all (l:=c :: r)
  unfold wordB
  simp only
  have e1:(((c :: r).length:Int) > 20)↔20<(c :: r).length:=by omega
  cases h:letB c with
  | false=>simp -implicitDefEqProofs [r132,p132,sv_head,ret0 m174,lc,h]
  | true =>
   by_cases h2:(c :: r).length≤20
   ·have h2':¬ ((20:Int)<(((c :: r).length:Nat):Int)):=by omega
    have e3:(((spanN (c :: r):Nat):Int)=(((c :: r).length:Nat):Int))↔(c :: r).all ldB=true:=by rw [← hs.2];omega
    rw [decide_eq_true h2,Bool.and_true,Bool.true_and]
    generalize hL:c :: r=l at *
    have ix:indexT .str (.string ⟨⟨l⟩⟩) (.int .i64 0)=some (.int .u8 c.toNat):=by rw [← hL];exact sv_head
    have hne:¬ l=[]:=by rw [← hL];simp
    cases h4:l.all ldB with
    | true =>
     rw [h4] at e3
     have e4:=e3.2 rfl
     simp -implicitDefEqProofs [r132,p132,str_size,ix,hne,ret0 m174,lc,h,h2',ret0 m175,sp,e4]
    | false =>
     rw [h4] at e3
     have e4:¬ ((spanN l:Nat):Int)=((l.length:Nat):Int):=fun q=>by have:=e3.1 q;cases this
     simp -implicitDefEqProofs [r132,p132,str_size,ix,hne,ret0 m174,lc,h,h2',ret0 m175,sp,e4]
   ·have h2':((20:Int)<(((c :: r).length:Nat):Int)):=by omega
    rw [decide_eq_false h2]
    generalize hL:c :: r=l at *
    have ix:indexT .str (.string ⟨⟨l⟩⟩) (.int .i64 0)=some (.int .u8 c.toNat):=by rw [← hL];exact sv_head
    have hne:¬ l=[]:=by rw [← hL];simp
    simp -implicitDefEqProofs [r132,p132,str_size,ix,hne,ret0 m174,lc,h,h2']
theorem mCo:E.mode 133=0:=by kernel_rfl
theorem con_pure (a b:List UInt8) (ha:a.length≤1000000):pureCall E.P (L E) 133 [.string ⟨⟨a⟩⟩,.string ⟨⟨b⟩⟩]=some (.bool (Lib.contains a b)):=by
 unfold pureCall
 rw [L_orc (g:=scaG contF) rfl]
 have e1:contF [.string ⟨⟨a⟩⟩,.string ⟨⟨b⟩⟩]=some (.bool (Lib.contains a b)):=by
  show (if ByteArray.size ⟨⟨a⟩⟩<4294967281 then _ else none)=_
  rw [if_pos (by rw [str_size];omega)]
 show ((contF [.string ⟨⟨a⟩⟩,.string ⟨⟨b⟩⟩]).map (·,_)).bind _=_
 rw [e1];rfl
theorem res_text:blanks resW=[32,97,110,100,32,97,112,97,114,116,32,98,97,115,101,32,99,97,112,32,100,101,102,105,110,101,32,101,108,115,101,32,101,120,99,101,112,116,32,102,114,111,109,32,103,114,97,99,101,32,104,111,117,114,115,32,105,102,32,105,110,32,108,101,97,115,116,32,110,111,116,32,111,114,32,111,118,101,114,108,97,121,32,112,108,97,110,101,32,114,117,108,101,32,115,108,111,112,101,32,115,117,110,32,116,97,98,108,101,32,116,104,101,110,32,117,110,116,105,108,32,117,115,101,115,32,118,97,114,121,32,118,105,101,119,32,122,111,110,101,32]:=by kernel_rfl
theorem name_pure (l:List UInt8) (hl:l.length≤1000000):pureCall E.P (L E) 67 [.string ⟨⟨l⟩⟩]=some (.bool (nameB l)):=by
 rw [pureCall_fn F67 rfl]
 have hw:=word_pure l hl
 unfold nameB
 cases h:wordB l with
 | false=>simp -implicitDefEqProofs [r67,p67,ret0 m132,hw,h]
 | true =>
  have co:=con_pure (blanks resW) (32 :: (l++[32])) (of_decide_eq_true (by kernel_rfl))
  rw [show (32:UInt8) :: (l++[32])=32 :: l++[32] from rfl,Dw.cont_res h] at co
  rw [res_text] at co
  have a1:=sv_add (P:=E.P) (t:=9) (a:=[32]) (b:=l) (by simp;omega)
  have a2:=sv_add (P:=E.P) (t:=9) (a:=32 :: l) (b:=[32]) (by simp;omega)
  simp only [List.cons_append,List.nil_append] at a1 a2 co
  simp -implicitDefEqProofs [r67,p67,ret0 m132,hw,h,a1,a2,ret0 mCo,co]
end Go.Proofs.YtplebjehcgcdeaaGreatDoor.Bm
namespace Go.Proofs.YtplebjehcgcdeaaGreatDoor.Bm
open Go Go.RowKit
open Dw (Vol Ent Phs Drw)
def vfrom:Nat→Int→Int→List Phs→List Vol
 | _,_,_,[]=>[]
 | i,f,t,p :: r=>(if f≤i∧(i:Int)<t then p.vols else [])++vfrom (i+1) f t r
theorem vfrom_all:∀ (l:List Phs) (i:Nat) (t:Int),(i:Int)+l.length≤t→vfrom i 0 t l=l.flatMap Phs.vols
 | [],_,_,_=>rfl
 | p :: r,i,t,h=>by
  rw [List.length_cons] at h
  unfold vfrom
  rw [if_pos ⟨by omega,by omega⟩,vfrom_all r (i+1) t (by omega)];rfl
abbrev elV:El:=⟨tV,9,72,.agg ⟨[.int .i64 0,.int .i64 0,.int .i64 0,.int .i64 0,.int .i64 0,.int .i64 0,.int .i64 0,.int .i64 0,.bool false]⟩,⟨some true,some 9⟩⟩
theorem app_vs {h:Heap} {b lo:Nat} {c m:List Vol} (hob:h[b]?=some (volR.row tV c)) (hlo:lo≤b) (hc:c.length+m.length≤1000000) :
  appendT (some elV) h lo false (volR.sl b c) (lst false (volR.vals m))=some (volR.sl b (c++m),h.set b (volR.row tV (c++m))) :=
 Rec.app (R:=volR) (m:=m) rfl hob (Rec.cells_tree (R:=volR) rfl m) hlo (by show (c.length+m.length) * 72≤2 ^ 47;omega)
theorem ph_val {p:Phs}:phR.val p=.agg ⟨[lst false (volR.vals p.vols),lst false (entR.vals p.gives)]⟩:=rfl
theorem vols_spec (k:Option Bool) (d:Drw) (f t:Int) (hk:Rec.Ok k d.phs) (hp:d.phs.length≤1000000) (hv:d.all.length≤1000000) :
  pureCall E.P (L E) 26 [drV k d,.int .i64 f,.int .i64 t]=some (lst false (volR.vals (vfrom 0 f t d.phs))):=by
 obtain ⟨lot,phs⟩:=d
 unfold Dw.Drw.all at hv
 simp only at hk hp hv
 have ll:∀ h,lenT .sl h (phR.o k phs)=some (.int .i64 phs.length):=fun h=>Rec.o_len hk
 have ix:=fun (i:Nat) (hi:i<phs.length)=>Rec.o_index (R:=phR) (s:=2) (t:=tP) (kk:=.i64) rfl hk hi
 have sn:szOf E.P tV=some (8+1):=sVol
 have esl:Value.slice (some ⟨1,0,some 0⟩) 0 0=volR.sl 1 []:=rfl
 have erow:AObj.cells tV [] (8+1)=volR.row tV []:=rfl
 have ld:∀ X,loadT ⟨some false,some 1⟩ (AObj.cells tD [.int .i64 lot,phR.o k phs] 0 :: X) (.pointer (some ⟨0,1,none⟩))=some (phR.o k phs):=fun X=>obj_load (j:=1) (t:=tD) (c:=[.int .i64 lot,phR.o k phs]) rfl rfl
 rw [pureCall_fn F26 rfl]
 unfold drV
 simp only
 have bP:∀ d n,below (d+1) n (phR.o k phs)=true:=fun d n=>Rec.o_bel
 generalize phR.o k phs=VP at *
 simp -implicitDefEqProofs [r26,p26,prep_new,newK_nil sn,esl,erow,ld,ll]
 rw [LL_for (γ:=List Vol) phs [] (fun i c=>[(7,volR.sl 1 c),(13,.int .i64 (i:Int))]) (fun _ c=>[.cells tD [.int .i64 lot,VP] 0,volR.row tV c]) (fun i rest c=>(.exit 0,[(7,volR.sl 1 (c++vfrom i f t rest)),(13,undef)],[.cells tD [.int .i64 lot,VP] 0,volR.row tV (c++vfrom i f t rest)]))
  (fun i c=>c.length+((phs.drop i).flatMap Phs.vols).length≤1000000) (by omega) (by simpa using hv)]
 ·have rr:=Rec.reifyR_row (R:=volR) (P:=E.P) (h:=[.cells tD [.int .i64 lot,VP] 0,volR.row tV ([]++vfrom 0 f t phs)]) (b:=1) rfl sVol aVol
  rw [List.nil_append] at rr ⊢
  generalize vfrom 0 f t phs=out at *
  simp -implicitDefEqProofs [k26_3,rr]
 ·simp -implicitDefEqProofs [k26_3]
 ·rfl
 ·intro nx i c hi _
  simp -implicitDefEqProofs [r26_3,k26_3,hi,trim_le,vfrom]
 ·intro nx i p rest c hi hv2 hd hw hinv ih
  rw [hd,List.flatMap_cons,List.length_append] at hinv
  have hd2:phs.drop (i+1)=rest:=by
   have:=congrArg List.tail hd
   simpa [List.tail_drop] using this
  have xi:=ix i hi
  rw [hv2,ph_val] at xi
  have pV:∀ X,fitsTT ⟨some true,some 2⟩ (.agg ⟨[lst false (volR.vals p.vols),X]⟩)=true:=fun X=>rfl
  have s2:∀ (A B:AObj) (u v:Value),storeT (some 2) [A,B,.cells tP [.slice none 0 0,.slice none 0 0] 0] 0 (.agg ⟨[u,v]⟩) (.pointer (some ⟨2,0,none⟩))=some [A,B,.cells tP [u,v] 0]:=fun A B u v=>snoc_put (g:=[A,B]) (lo:=0) (t:=tP) (n:=2) (c:=[.slice none 0 0,.slice none 0 0]) (d:=[u,v]) rfl rfl (by decide) (Nat.zero_le _)
  have d2:∀ (A B:AObj) (u v:Value),loadT ⟨some false,some 1⟩ [A,B,.cells tP [u,v] 0] (.pointer (some ⟨2,0,none⟩))=some u:=fun A B u v=>obj_load (j:=0) (t:=tP) (c:=[u,v]) rfl rfl
  have ap:=fun (A C:AObj)=>app_vs (h:=[A,volR.row tV c,C]) (b:=1) (lo:=0) (c:=c) (m:=p.vols) rfl (Nat.zero_le _) (by omega)
  have hlen:(p.vols.length:Nat)≤1000000:=by omega
  have bl:∀ n,belowO n (.cells tD [.int .i64 lot,VP] 0)=true:=fun n=>by show ([_,_]:List Value).all (below 8 n)=true;simp only [List.all_cons,List.all_nil,bP,bel_int,Bool.and_self]
  have bD:∀ n,below 8 n (.agg ⟨[.int .i64 lot,VP]⟩)=true:=fun n=>by show ([_,_]:List Value).all (below 7 n)=true;simp only [List.all_cons,List.all_nil,bP,bel_int,Bool.and_self]
  unfold vfrom
  by_cases q1:f≤(i:Int)
  ·by_cases q2:(i:Int)<t
   ·rw [if_pos ⟨q1,q2⟩,← List.append_assoc]
    have ih:=ih (c++p.vols) (by rw [hd2,List.length_append];omega)
    simp -implicitDefEqProofs [k26_3,-List.append_assoc] at ih
    simp -implicitDefEqProofs [r26_3,k26_3,hi,xi,pV,s2,d2,q1,q2,ap,hw,trim_cut,Rec.sl_bel,Rec.row_bel,bl,bD,bP,-List.all_eq_true,-List.append_assoc]
    exact ih
   ·rw [if_neg (fun q=>q2 q.2),List.nil_append]
    have ih:=ih c (by rw [hd2];omega)
    simp -implicitDefEqProofs [k26_3,-List.append_assoc] at ih
    simp -implicitDefEqProofs [r26_3,k26_3,hi,xi,pV,s2,q1,q2,hw,trim_cut,Rec.sl_bel,Rec.row_bel,bl,bD,bP,-List.all_eq_true,-List.append_assoc]
    exact ih
  ·rw [if_neg (fun q=>q1 q.1),List.nil_append]
   have ih:=ih c (by rw [hd2];omega)
   simp -implicitDefEqProofs [k26_3,-List.append_assoc] at ih
   simp -implicitDefEqProofs [r26_3,k26_3,hi,xi,pV,s2,q1,hw,trim_cut,Rec.sl_bel,Rec.row_bel,bl,bD,bP,-List.all_eq_true,-List.append_assoc]
   exact ih
end Go.Proofs.YtplebjehcgcdeaaGreatDoor.Bm
