/-
 Closed ways of straight pieces, and their corners: sums over pieces are sums over sides. Conditions: none. No program in sight.
-/
import Derived.Test.YtnhdabelepjgbaaGreatQT21
import Derived.Test.YtnhdabelepjgbaaGreatQT23
import Derived.Test.YtnhdabelepjgbaaGreatQT22
namespace Go.Proofs.YtnhdabelepjgbaaGreat.Bm
open Go Go.RowKit
open Rg (Rect scan scan_le putAt insN sortU edgesX)
def iT (l:List Int):Value:=lst false (l.map (.int .i64))
theorem iT_len {h:Heap} {l:List Int}:lenT .sl h (iT l)=some (.int .i64 l.length):=by unfold iT;rw [len_lst];simp
theorem iT_index {l:List Int} {i:Nat} (hi:i<l.length):indexAddrT (.sl 3 ⟨some false,some 1⟩) (iT l) (.int .i64 (i:Int))=some (cptr (.int .i64 l[i])):=by
 unfold iT
 have e:(l.map (Value.int .i64))[i]?=some (.int .i64 l[i]):=by simp [hi]
 rw [index_lst,if_pos (by omega),show ((i:Int)).toNat=i by omega,e,Option.bind_some,if_pos (by rfl)]
theorem iT_set (l:List Int):settled depth (iT l)=true:=rfl
theorem iT_reify (h:Heap) (l:List Int):reify E.P 8 h (iT l)=some (iT l):=rfl
theorem iT_bel {d n:Nat} {l:List Int}:below (d+1) n (iT l)=true:=rfl
theorem g3:aggT E.P 3=some false:=by kernel_rfl
theorem int_reifyR {h:Heap} {b:Nat} {l:List Int} (hob:h[b]?=some (intR.row 3 l)):reifyR E.P h (intR.sl b l)=some (iT l):=by
 have e0:intR.sl b l=.slice (some ⟨b,0,some l.length⟩) l.length l.length:=by unfold Rec.sl;simp [intR]
 show reify E.P 8 h (intR.sl b l)=_
 rw [e0,reify_slice]
 by_cases h0:l.length=0
 ·have:l=[]:=List.eq_nil_of_length_eq_zero h0
  subst this;rfl
 ·rw [if_neg h0,hob]
  unfold Rec.row
  rw [int_flat]
  show reifyS E.P 7 h (some (.cells 3 (l.map (.int .i64)) 1)) _ _=_
  rw [reifyS_cells,s3,Option.bind_some,if_pos ⟨by simp [stampOk],Nat.one_pos,by simp⟩]
  have e:((l.map (Value.int .i64)).drop 0).take (l.length * 1)=l.map (.int .i64):=by rw [List.drop_zero,Nat.mul_one,List.take_of_length_le (by simp)]
  rw [e,reifyC_set (by simp [List.all_eq_true]),Option.bind_some,elems_one g3 s3];rfl
theorem int_freeze {h:Heap} {lo b:Nat} {l:List Int} (hob:h[b]?=some (intR.row 3 l)) (hlo:lo≤b):∃ g,freezeV E.P depth lo h (intR.sl b l)=some (iT l,g):=by
 have e0:intR.sl b l=.slice (some ⟨b,0,some l.length⟩) l.length l.length:=by unfold Rec.sl;simp [intR]
 have hob':h[b]?=some (.cells 3 (l.map (.int .i64)) 1):=by rw [hob];unfold Rec.row;rw [int_flat];rfl
 rw [e0]
 exact ⟨_,frz_one8 hob' s3 g3 hlo (List.length_map _).symm (List.length_map _).symm (by simp [List.all_eq_true])⟩
theorem int_sl {b:Nat} {c d:List Int} (h:c.length=d.length):intR.sl b c=intR.sl b d:=by unfold Rec.sl;rw [h]
theorem int_index {g:Option Bool} {b:Nat} {l:List Int} {i:Nat} (h1:i<l.length):indexAddrT (.sl 3 ⟨g,some 1⟩) (intR.sl b l) (.int .i64 (i:Int))=some (intR.at_ b l i 0):=Rec.index_row (R:=intR) rfl h1
theorem int_load {h:Heap} {b:Nat} {l:List Int} {i:Nat} {sz:Option Nat} (hob:h[b]?=some (intR.row 3 l)) (h1:i<l.length):loadT ⟨some false,sz⟩ h (intR.at_ b l i 0)=some (.int .i64 l[i]):=Rec.load_cell (R:=intR) (j:=0) hob h1 (by decide)
theorem int_store {h:Heap} {b lo:Nat} {l:List Int} {i:Nat} (z:Int) (hob:h[b]?=some (intR.row 3 l)) (hlo:lo≤b) (h1:i<l.length):storeT (some 1) h lo (.int .i64 z) (intR.at_ b l i 0)=some (h.set b (intR.row 3 (l.set i z))) :=
 Rec.store_cell (R:=intR) (j:=0) rfl hob hlo h1 (by decide) rfl
theorem lit_num (h:Heap) (z:Int):buildSliceT (some ⟨3,1,8,.int .i64 0,⟨some false,some 1⟩⟩) false h 1 #[(0,.int .i64 z)]=some (lst true [.int .i64 z],h) :=
 (build_lit' (n:=1) (l:=[(0,.int .i64 z)]) rfl rfl (by decide) (by decide) (by decide)).trans rfl
theorem app_num {h:Heap} {b lo:Nat} {c:List Int} (z:Int) (hob:h[b]?=some (intR.row 3 c)) (hlo:lo≤b) (hc:c.length≤1000000) :
  appendT (some ⟨3,1,8,.int .i64 0,⟨some false,some 1⟩⟩) h lo false (intR.sl b c) (lst true [.int .i64 z])=some (intR.sl b (c++[z]),h.set b (intR.row 3 (c++[z]))) :=
 Rec.app (R:=intR) (m:=[z]) rfl hob (cells_lst (by rfl)) hlo (by show (c.length+1) * 8≤2 ^ 47;omega)
def shiftRow (o:List Int) (m:Nat):List Int:=(o++[0]).take (m+1)++o.drop m
theorem shiftRow_len {o:List Int} {m:Nat} (h:m≤o.length):(shiftRow o m).length=o.length+1:=by
 unfold shiftRow
 rw [List.length_append,List.length_take,List.length_drop,List.length_append]
 show min (m+1) (o.length+1)+(o.length-m)=_
 omega
theorem shiftRow_top (o:List Int):shiftRow o o.length=o++[0]:=by
 unfold shiftRow
 rw [List.drop_length,List.append_nil,List.take_of_length_le (by simp)]
theorem shiftRow_get {o:List Int} {m j:Nat} (h:m≤o.length) (hj:j<m):(shiftRow o m)[j]'(by rw [shiftRow_len h];omega)=o[j]:=by
 unfold shiftRow
 rw [List.getElem_append_left (by rw [List.length_take,List.length_append];simp;omega),List.getElem_take,List.getElem_append_left (by omega)]
theorem shiftRow_split {o:List Int} {m:Nat} (h:m≤o.length):∃ x,shiftRow o m=o.take m++x :: o.drop m:=by
 refine ⟨(o++[0])[m]'(by simp;omega),?_⟩
 unfold shiftRow
 rw [List.take_succ_eq_append_getElem (by simp;omega),List.take_append_of_le_length h,List.append_assoc];rfl
theorem shiftRow_set {o:List Int} {m:Nat} (h:m≤o.length) (z:Int):(shiftRow o m).set m z=putAt o m z:=by
 obtain ⟨x,e⟩:=shiftRow_split h
 have hl:(o.take m).length=m:=by rw [List.length_take];omega
 rw [e,List.set_append_right _ _ (by omega),hl,Nat.sub_self];rfl
theorem shiftRow_down {o:List Int} {m:Nat} (h:m+1≤o.length):(shiftRow o (m+1)).set (m+1) (o[m]'(by omega))=shiftRow o m:=by
 rw [shiftRow_set h]
 unfold putAt shiftRow
 rw [List.take_append_of_le_length (by omega),List.drop_eq_getElem_cons (show m<o.length by omega)]
theorem sorted_spec (l:List Int) (hl:l.length≤10000):pureCall E.P (L E) 74 [iT l]=some (iT (sortU l)):=by
 rw [← Rg.insN_sortU,pureCall_fn F74 rfl]
 simp -implicitDefEqProofs [r74,p74,prep_new,newK_nil s3]
 rw [LL_for (γ:=List Int) l [] (fun i o=>[(3,intR.sl 0 o),(4,.int .i64 i)]) (fun _ o=>[intR.row 3 o])
  (fun _ rest o=>(.exit 0,[(3,intR.sl 0 (rest.foldl insN o)),(4,undef)],[intR.row 3 (rest.foldl insN o)])) (fun i o=>o.length≤i) (by omega) (Nat.le_refl _)]
 ·have rr:=int_reifyR (h:=[intR.row 3 (l.foldl insN [])]) (b:=0) (l:=l.foldl insN []) rfl
  simp -implicitDefEqProofs [k74_3,rr]
 ·simp -implicitDefEqProofs [k74_3,Rec.sl_nil]
 ·rfl
 ·intro nx i o hi _
  simp -implicitDefEqProofs [r74_3,k74_3,hi,iT_len,trim_le]
 ·intro nx i z rest o hi hv hd hw ho ih
  have ixl:=iT_index hi
  rw [hv] at ixl
  have hle:=scan_le (fun j=>decide (z<o.getD j 0)) o.length
  have gd:∀ j (hj:j<o.length),o.getD j 0=o[j]:=fun j hj=>by rw [List.getD_eq_getElem?_getD,List.getElem?_eq_getElem hj];rfl
  have ei:insN o z=if 0<scan (fun j=>decide (z<o.getD j 0)) o.length∧o.getD (scan (fun j=>decide (z<o.getD j 0)) o.length-1) 0=z then o else putAt o (scan (fun j=>decide (z<o.getD j 0)) o.length) z:=rfl
  have ixo:=fun (j:Nat) (hj:j<o.length)=>int_index (g:=some false) (b:=0) (l:=o) hj
  have ldo:=fun (j:Nat) (hj:j<o.length)=>int_load (h:=[intR.row 3 o]) (b:=0) (l:=o) (sz:=some 1) rfl hj
  rw [List.foldl_cons]
  simp -implicitDefEqProofs [r74_3,k74_3,hi,iT_len,Rec.sl_len]
  rw [LL_rec (α:=Nat) o.length (fun k=>[(5,.int .i64 (k:Int))]) (fun _=>[intR.row 3 o]) (fun k=>(.exit 2,[(5,.int .i64 ((scan (fun j=>decide (z<o.getD j 0)) k:Nat):Int))],[intR.row 3 o])) (fun k=>k≤o.length) (fun k=>k)]
  ·generalize scan (fun j=>decide (z<o.getD j 0)) o.length=k at hle ei ⊢
   have hk:=hle
   have ap:=app_num (h:=[intR.row 3 o]) (b:=0) (lo:=0) (c:=o) 0 rfl (Nat.le_refl _) (by omega)
   have wl:IntKind.i64.wrap (((o++[0]).length:Int)-1)=(o.length:Int):=by
    have:(o++[0]).length=o.length+1:=by simp
    rw [this];exact (wrap64 (by omega) (by omega)).trans (by omega)
   by_cases hc:0<k∧o.getD (k-1) 0=z
   ·rw [ei,if_pos hc]
    obtain ⟨hk0,hkz⟩:=hc
    have hko:k-1<o.length:=by omega
    rw [gd _ hko] at hkz
    have hpos:(0:Int)<(k:Int):=by omega
    have w1:IntKind.i64.wrap ((k:Int)-1)=((k-1:Nat):Int):=(wrap64 (by omega) (by omega)).trans (by omega)
    have ih:=ih o (by omega)
    simp -implicitDefEqProofs [k74_3] at ih
    simp -implicitDefEqProofs [k74_6,hk0,w1,ixo _ hko,ldo _ hko,ixl,hkz,hw,trim_le]
    exact ih
   ·rw [ei,if_neg hc]
    have ih:=ih (putAt o k z) (by rw [Rg.putAt_len];omega)
    simp -implicitDefEqProofs [k74_3] at ih
    have es:∀ m,m≤o.length→intR.sl 0 (shiftRow o m)=intR.sl 0 (o++[0]):=fun m hm=>int_sl (by rw [shiftRow_len hm];simp)
    have ixs:=fun (m:Nat) (hm:m≤o.length) (j:Nat) (hj:j<o.length+1)=>(es m hm) ▸ int_index (g:=some false) (b:=0) (l:=shiftRow o m) (i:=j) (by rw [shiftRow_len hm];exact hj)
    have esp:intR.sl 0 (putAt o k z)=intR.sl 0 (o++[0]):=int_sl (by rw [Rg.putAt_len];simp)
    rw [esp] at ih
    have two:(¬ (0:Int)<(k:Int))∨((0:Int)<(k:Int)∧∃ hko:k-1<o.length,¬ o[k-1]=z):=by
     by_cases h0:0<k
     ·have hko:k-1<o.length:=by omega
      exact .inr ⟨by omega,hko,fun e=>hc ⟨h0,by rw [gd _ hko];exact e⟩⟩
     ·exact .inl (by omega)
    have w1:0<k→IntKind.i64.wrap ((k:Int)-1)=((k-1:Nat):Int):=fun h=>(wrap64 (by omega) (by omega)).trans (by omega)
    have ixk:=ixs k hk k (by omega)
    have stk:=int_store (h:=[intR.row 3 (shiftRow o k)]) (b:=0) (lo:=0) (l:=shiftRow o k) (i:=k) z rfl (Nat.le_refl _) (by rw [shiftRow_len hk];omega)
    rw [shiftRow_set hk] at stk
    rcases two with h0 | ⟨h0,hko,hne⟩
    ·have h0n:¬ (0<k):=by omega
     simp -implicitDefEqProofs [k74_6,h0n,lit_num,ap,Rec.sl_len,wl,-List.length_append]
     rw [LL_rec (α:=Nat) o.length (fun m=>[(6,.int .i64 (m:Int))]) (fun m=>[intR.row 3 (shiftRow o m)]) (fun m=>(.exit 4,[(6,undef)],[intR.row 3 (shiftRow o k)])) (fun m=>k≤m∧m≤o.length) (fun m=>m)]
     ·simp -implicitDefEqProofs [k74_11,ixk,stk,ixl,hw,trim_le]
      exact ih
     ·exact ⟨hk,Nat.le_refl _⟩
     ·simp -implicitDefEqProofs [k74_11]
     ·simp only [shiftRow_top]
     ·intro nx m hm ih
      by_cases hkm:k<m
      ·obtain ⟨m,rfl⟩:∃ m',m=m'+1:=⟨m-1,by omega⟩
       have hmo:m<o.length:=by omega
       have ih:=ih m (by omega) ⟨by omega,by omega⟩
       have w3:IntKind.i64.wrap ((m:Int)+1-1)=(m:Int):=(wrap64 (by omega) (by omega)).trans (by omega)
       have w4:IntKind.i64.wrap (m:Int)=(m:Int):=wrap64 (by omega) (by omega)
       have hkm':(k:Int)<(m:Int)+1:=by omega
       have ixa:=ixs (m+1) (by omega) m (by omega)
       have ixb:=ixs (m+1) (by omega) (m+1) (by omega)
       have lda:=int_load (h:=[intR.row 3 (shiftRow o (m+1))]) (b:=0) (l:=shiftRow o (m+1)) (i:=m) (sz:=some 1) rfl (by rw [shiftRow_len (by omega)];omega)
       rw [shiftRow_get (by omega) (by omega)] at lda
       have sta:=int_store (h:=[intR.row 3 (shiftRow o (m+1))]) (b:=0) (lo:=0) (l:=shiftRow o (m+1)) (i:=m+1) o[m] rfl (Nat.le_refl _) (by rw [shiftRow_len (by omega)];omega)
       rw [shiftRow_down hmo] at sta
       push_cast at ixb
       simp -implicitDefEqProofs [k74_11] at ih
       simp -implicitDefEqProofs [r74_11,k74_11,hkm',w4,ixa,ixb,lda,sta,trim_le]
       exact ih
      ·have e:m=k:=by omega
       subst e
       simp -implicitDefEqProofs [r74_11,k74_11,trim_le]
    ·have h0':0<k:=by omega
     simp -implicitDefEqProofs [k74_6,h0',w1 h0',ixo _ hko,ldo _ hko,ixl,hne,lit_num,ap,Rec.sl_len,wl,-List.length_append]
     rw [LL_rec (α:=Nat) o.length (fun m=>[(6,.int .i64 (m:Int))]) (fun m=>[intR.row 3 (shiftRow o m)]) (fun m=>(.exit 4,[(6,undef)],[intR.row 3 (shiftRow o k)])) (fun m=>k≤m∧m≤o.length) (fun m=>m)]
     ·simp -implicitDefEqProofs [k74_11,ixk,stk,ixl,hw,trim_le]
      exact ih
     ·exact ⟨hk,Nat.le_refl _⟩
     ·simp -implicitDefEqProofs [k74_11]
     ·simp only [shiftRow_top]
     ·intro nx m hm ih
      by_cases hkm:k<m
      ·obtain ⟨m,rfl⟩:∃ m',m=m'+1:=⟨m-1,by omega⟩
       have hmo:m<o.length:=by omega
       have ih:=ih m (by omega) ⟨by omega,by omega⟩
       have w3:IntKind.i64.wrap ((m:Int)+1-1)=(m:Int):=(wrap64 (by omega) (by omega)).trans (by omega)
       have w4:IntKind.i64.wrap (m:Int)=(m:Int):=wrap64 (by omega) (by omega)
       have hkm':(k:Int)<(m:Int)+1:=by omega
       have ixa:=ixs (m+1) (by omega) m (by omega)
       have ixb:=ixs (m+1) (by omega) (m+1) (by omega)
       have lda:=int_load (h:=[intR.row 3 (shiftRow o (m+1))]) (b:=0) (l:=shiftRow o (m+1)) (i:=m) (sz:=some 1) rfl (by rw [shiftRow_len (by omega)];omega)
       rw [shiftRow_get (by omega) (by omega)] at lda
       have sta:=int_store (h:=[intR.row 3 (shiftRow o (m+1))]) (b:=0) (lo:=0) (l:=shiftRow o (m+1)) (i:=m+1) o[m] rfl (Nat.le_refl _) (by rw [shiftRow_len (by omega)];omega)
       rw [shiftRow_down hmo] at sta
       push_cast at ixb
       simp -implicitDefEqProofs [k74_11] at ih
       simp -implicitDefEqProofs [r74_11,k74_11,hkm',w4,ixa,ixb,lda,sta,trim_le]
       exact ih
      ·have e:m=k:=by omega
       subst e
       simp -implicitDefEqProofs [r74_11,k74_11,trim_le]
  ·exact Nat.le_refl _
  ·simp -implicitDefEqProofs [k74_6]
  ·rfl
  ·intro nx k hk ih
   cases k with
   | zero=>simp -implicitDefEqProofs [r74_6,k74_6,scan,trim_le]
   | succ k =>
    have hko:k<o.length:=by omega
    have w1:IntKind.i64.wrap ((k:Int)+1-1)=(k:Int):=(wrap64 (by omega) (by omega)).trans (by omega)
    have w2:IntKind.i64.wrap (k:Int)=(k:Int):=wrap64 (by omega) (by omega)
    have hpos:(0:Int)<(k:Int)+1:=by omega
    have ih:=ih k (by omega) (by omega)
    have e:scan (fun j=>decide (z<o.getD j 0)) (k+1)=if decide (z<o.getD k 0) then scan (fun j=>decide (z<o.getD j 0)) k else k+1:=rfl
    rw [e,gd k hko]
    simp -implicitDefEqProofs [k74_6] at ih
    by_cases hz:z<o[k]
    ·simp -implicitDefEqProofs [r74_6,k74_6,hpos,w2,ixo k hko,ldo k hko,ixl,hz,trim_le]
     exact ih
    ·simp -implicitDefEqProofs [r74_6,k74_6,hpos,w2,ixo k hko,ldo k hko,ixl,hz,trim_le]
open Rg (Rect Slab Pt sidesP upS hB ysP colY polyL rightP sortU stripL outT emit pairs ends)
def polyX (p:List Pt):Except Int (List Rect):=if rightP p then (if 200<(polyL p).length then .error 6 else .ok (polyL p)) else .error 10
theorem ends_even7:∀ {c:List (Int × Int)} {j:Nat} (hj:j<c.length),(ends c)[2 * j]?=some c[j].1∧(ends c)[2 * j+1]?=some c[j].2
 | [],j,hj=>by simp at hj
 | s :: c,0,_=>⟨rfl,rfl⟩
 | s :: c,j+1,hj=>ends_even7 (c:=c) (j:=j) (by simpa using hj)
theorem ends_at7 {c:List (Int × Int)} {j:Nat} (hj:j<c.length):∃ (h1:2 * j<(ends c).length) (h2:2 * j+1<(ends c).length),(ends c)[2 * j]=c[j].1∧(ends c)[2 * j+1]=c[j].2:=by
 have hl:=Rg.ends_len c
 obtain ⟨e1,e2⟩:=ends_even7 hj
 refine ⟨by omega,by omega,?_,?_⟩
 ·rw [List.getElem?_eq_getElem (by omega)] at e1;exact Option.some.inj e1
 ·rw [List.getElem?_eq_getElem (by omega)] at e2;exact Option.some.inj e2
theorem emit_cons7 (x0 x1:Int) (s:Int × Int) (c:List (Int × Int)):emit ⟨x0,x1,s :: c⟩=[⟨x0,s.1,x1,s.2⟩]++emit ⟨x0,x1,c⟩:=rfl
theorem strip_step {c:Int→List (Int × Int)} {U:List Int} {i:Nat} (h:i+1<U.length):outT (stripL c (U.drop i))=emit ⟨U[i],U[i+1],c U[i]⟩++outT (stripL c (U.drop (i+1))):=by
 rw [List.drop_eq_getElem_cons (show i<U.length by omega),List.drop_eq_getElem_cons h];rfl
theorem strip_end {c:Int→List (Int × Int)} {U:List Int} {i:Nat} (h:¬ i+1<U.length):outT (stripL c (U.drop i))=[]:=by
 have hl:(U.drop i).length≤1:=by rw [List.length_drop];omega
 match U.drop i,hl with
 | [],_=>rfl
 | [_],_=>rfl
theorem hB_up {x:Int} {s:Pt × Pt} (h:upS s=true):hB x s=false:=by
 unfold upS at h
 rw [decide_eq_true_eq] at h
 cases q:hB x s
 ·rfl
 ·rw [Rg.hB_iff] at q;omega
theorem sett (z:Int):settled depth (.int .i64 z)=true:=rfl
set_option maxHeartbeats 4000000 in
theorem pregion_spec (x:Bool) (p:List Pt) (hp:p.length≤1000000):pureCall E.P (L E) 5 [lst x (spanR.vals p)]=some (resL (polyX p)):=by
 have ln:∀ h,lenT .sl h (lst x (spanR.vals p))=some (.int .i64 p.length):=fun h=>Rec.tree_len
 have hR:=pright_spec x p hp
 have rf:∀ h,reify E.P 8 h (lst x (spanR.vals p))=some (lst x (spanR.vals p)):=fun _=>rfl
 have sv0:settled depth (lst x (spanR.vals p))=true:=rfl
 have bP:∀ d n,below (d+1) n (lst x (spanR.vals p))=true:=fun d n=>rfl
 have pix:∀ (j:Nat) (hj:j<p.length),indexAddrT (.sl 42 ⟨some true,some 2⟩) (lst x (spanR.vals p)) (.int .i64 (j:Int))=some (cptr (spanR.val p[j])):=fun j hj=>Rec.index_tree rfl hj
 rw [pureCall_fn F5 rfl]
 unfold polyX
 generalize hPV:lst x (spanR.vals p)=PV at *
 cases hr:rightP p
 ·rw [hr] at hR
  simp -implicitDefEqProofs [r5,p5,ret0 m8,rf,hR,resL]
 rw [hr] at hR
 obtain ⟨hp4,hp60⟩:=Rg.rightP_len hr
 simp -implicitDefEqProofs [r5,p5,ret0 m8,rf,hR,prep_new,newK_nil s3,ln]
 rw [LL_for (γ:=List Int) p [] (fun i c=>[(4,intR.sl 0 c),(19,.int .i64 i)]) (fun _ c=>[intR.row 3 c])
  (fun _ rest c=>(.exit 0,[(4,intR.sl 0 (c++rest.map (·.1))),(19,undef)],[intR.row 3 (c++rest.map (·.1))])) (fun i c=>c.length=i) (by omega) rfl]
 ·rw [List.nil_append]
  have hxl:(p.map (·.1)).length=p.length:=List.length_map _
  have hU:(sortU (p.map (·.1))).length≤p.length:=by
   have:=Rg.sortU_le (p.map (·.1));omega
  have so:=sortInts (h:=[intR.row 3 (p.map (·.1))]) (b:=0) (lo:=0) (d:=p.map (·.1)) rfl (Nat.le_refl _) (by omega)
  obtain ⟨r,co,hrl⟩:=compInts (h:=[intR.row 3 (sortI (p.map (·.1)))]) (b:=0) (lo:=0) (d:=sortI (p.map (·.1))) rfl (Nat.le_refl _) (by rw [sortI_len];omega)
  rw [Rg.comp_sort] at co hrl
  have e1:intR.sl 0 (sortI (p.map (·.1)))=intR.sl 0 (p.map (·.1)):=by unfold Rec.sl;rw [sortI_len]
  rw [e1,sortI_len,hxl] at co
  rw [sortI_len,hxl] at hrl
  have ar:pureCall E.P (L E) 20 [PV]=some (lst false (sideR.vals (sidesP p))):=by rw [← hPV];exact around_spec x p (by omega)
  have sln:=sides_lenT p
  have bS:∀ d n,below (d+1) n (lst false (sideR.vals (sidesP p)))=true:=fun d n=>rfl
  have six:∀ (j:Nat) (hj:j<(sidesP p).length),indexAddrT (.sl 48 ⟨some true,some 4⟩) (lst false (sideR.vals (sidesP p))) (.int .i64 (j:Int))=some (cptr (sideR.val (sidesP p)[j])):=fun j hj=>Rec.index_tree rfl hj
  have hsl:=Rg.sides_len p
  have ePL:polyL p=outT (stripL (colY p) (sortU (p.map (·.1)))):=rfl
  rw [ePL]
  have hev:∀ x,(sortI (ysP p x)).length % 2=0:=fun x=>by rw [sortI_len];exact Rg.ys_even p x
  have hyl:∀ x,(ysP p x).length≤p.length:=fun x=>Rg.ys_len p x
  have wl:IntKind.i64.wrap (((sortU (p.map (·.1))).length:Int)-1)=((sortU (p.map (·.1))).length:Int)-1:=wrap64 (by omega) (by omega)
  simp -implicitDefEqProofs [k5_5,wl,ret2 (E:=E) (f:=18) rfl,ret2 (E:=E) (f:=19) rfl,so,co,ret1 m20,sv0,ar,prep_new,newK_nil s32,pre_len]
  generalize hSV:lst false (sideR.vals (sidesP p))=SV at *
  generalize sortU (p.map (·.1))=U at *
  clear so co e1 ePL hxl hR
  rw [LL_rec (α:=Nat × List Rect) (0,[]) (fun c=>[(8,rectR.sl 1 c.2),(38,.int .i64 (c.1:Int))]) (fun c=>[intR.row 3 (U++r),rectR.row 39 c.2])
   (fun c=>(.exit 2,[(8,rectR.sl 1 (c.2++outT (stripL (colY p) (U.drop c.1)))),(38,undef)],[intR.row 3 (U++r),rectR.row 39 (c.2++outT (stripL (colY p) (U.drop c.1)))])) (fun c=>c.1≤U.length∧c.2.length≤100 * c.1) (fun c=>U.length-c.1)]
  ·rw [List.drop_zero,List.nil_append]
   generalize outT (stripL (colY p) U)=F
   have rr:=Rec.reify_row (R:=rectR) (P:=E.P) (h:=[intR.row 3 (U++r),rectR.row 39 F]) (b:=1) (n:=7) (t:=39) (l:=F) rfl s32 a32
   by_cases h2:200<F.length
   ·have h2':200<(F.length:Int):=by omega
    simp -implicitDefEqProofs [k5_14,Rec.sl_len,h2,h2',resL]
   ·have h2':¬ (200<(F.length:Int)):=by omega
    simp -implicitDefEqProofs [k5_14,Rec.sl_len,h2,h2',rr,resL]
  ·exact ⟨Nat.zero_le _,Nat.zero_le _⟩
  ·simp -implicitDefEqProofs [k5_14,Rec.sl_nil]
  ·rfl
  ·intro nx c hc ih
   obtain ⟨i,o⟩:=c
   obtain ⟨h1,h2⟩:=hc
   simp only at h1 h2
   by_cases hi:i+1<U.length
   ·have hi':(i:Int)<(U.length:Int)-1:=by omega
    have wi:IntKind.i64.wrap ((i:Int)+1)=((i+1:Nat):Int):=(wrap64 (by omega) (by omega)).trans (by omega)
    have px:=pre_index (t:=3) (g:=some false) (b:=0) (n:=p.length) (k:=.i64) (e:=U) (i:=i) (by omega)
    have px1:=pre_index (t:=3) (g:=some false) (b:=0) (n:=p.length) (k:=.i64) (e:=U) hi
    have pl:=fun a b=>pre_load (h:=[intR.row 3 (U++r),a,b]) (b:=0) (n:=p.length) (sz:=some 1) (e:=U) (i:=i) rfl hrl (by omega)
    have pl2:=fun a b c=>pre_load (h:=[intR.row 3 (U++r),a,b,c]) (b:=0) (n:=p.length) (sz:=some 1) (e:=U) (i:=i) rfl hrl (by omega)
    have pl1:=fun a b=>pre_load (h:=[intR.row 3 (U++r),a,b]) (b:=0) (n:=p.length) (sz:=some 1) (e:=U) rfl hrl hi
    have hcl:2 * (colY p U[i]).length≤p.length:=Rg.colY_len p U[i]
    have ih:=ih (i+1,o++emit ⟨U[i],U[i+1],colY p U[i]⟩) (by show U.length-(i+1)<U.length-i;omega) ⟨by show i+1≤U.length;omega,by
     show (o++emit ⟨U[i],U[i+1],colY p U[i]⟩).length≤100 * (i+1)
     have e:(emit ⟨U[i],U[i+1],colY p U[i]⟩).length=(colY p U[i]).length:=List.length_map _
     rw [List.length_append,e];omega⟩
    rw [strip_step hi,← List.append_assoc]
    have ecol:colY p U[i]=pairs (sortI (ysP p U[i])):=rfl
    have eys:ysP p U[i]=((sidesP p).filter (hB U[i])).map (fun s=>s.1.2):=rfl
    have hev:=hev U[i]
    have hyl:=hyl U[i]
    have ee:=Rg.ends_pairs hev
    rw [ecol] at ih ⊢
    generalize hx0:U[i]=x0 at *
    generalize hx1:U[i+1]=x1 at *
    generalize outT (stripL (colY p) (U.drop (i+1)))=F at *
    simp -implicitDefEqProofs [k5_14,-List.append_assoc] at ih
    simp -implicitDefEqProofs [r5_14,k5_14,pre_len,wl,hi,hi',prep_new,newK_nil s3,sln,-List.append_assoc]
    rw [LL_for (γ:=List Int) (sidesP p) [] (fun j c=>[(10,intR.sl 2 c),(43,.int .i64 j)]) (fun _ c=>[intR.row 3 (U++r),rectR.row 39 o,intR.row 3 c])
     (fun _ rest c=>(.exit 4,[(10,intR.sl 2 (c++(rest.filter (hB x0)).map (fun s=>s.1.2))),(43,undef)],[intR.row 3 (U++r),rectR.row 39 o,intR.row 3 (c++(rest.filter (hB x0)).map (fun s=>s.1.2))])) (fun j c=>c.length≤j) (by omega) (Nat.le_refl _)]
    ·rw [List.nil_append,← eys]
     have so2:=sortInts (h:=[intR.row 3 (U++r),rectR.row 39 o,intR.row 3 (ysP p x0)]) (b:=2) (lo:=0) (d:=ysP p x0) rfl (Nat.zero_le _) (by omega)
     have hLl:(sortI (ysP p x0)).length=(ysP p x0).length:=sortI_len _
     have esl:intR.sl 2 (sortI (ysP p x0))=intR.sl 2 (ysP p x0):=int_sl hLl
     generalize ysP p x0=Y at *
     generalize sortI Y=Lq at *
     have hel:=Rg.ends_len (pairs Lq)
     rw [ee] at hel
     have ixL:=fun (j:Nat) (hj:j<Lq.length)=>int_index (g:=some false) (b:=2) (l:=Lq) hj
     rw [esl] at ixL
     simp -implicitDefEqProofs [k5_18,ret2 (E:=E) (f:=18) rfl,so2,-List.append_assoc]
     rw [LL_for (γ:=List Rect) (pairs Lq) o (fun j o'=>[(8,rectR.sl 1 o'),(13,.int .i64 ((2 * j:Nat):Int))]) (fun _ o'=>[intR.row 3 (U++r),rectR.row 39 o',intR.row 3 Lq])
      (fun _ rest o'=>(.exit 6,[(8,rectR.sl 1 (o'++emit ⟨x0,x1,rest⟩)),(13,undef)],[intR.row 3 (U++r),rectR.row 39 (o'++emit ⟨x0,x1,rest⟩),intR.row 3 Lq])) (fun j o'=>o'.length=o.length+j) (by omega) rfl]
     ·simp -implicitDefEqProofs [k5_25,wi,trim_cut,bP,bS,Rec.sl_bel,Rec.row_bel,pre_bel,-List.append_assoc,-Int.natCast_add]
      exact ih
     ·simp -implicitDefEqProofs [k5_25]
     ·rfl
     ·intro nx j o' hj _
      have w2:IntKind.i64.wrap (((2 * j:Nat):Int)+1)=((2 * j+1:Nat):Int):=wrap64 (by omega) (by omega)
      have hjn:¬ (((2 * j+1:Nat):Int)<(Y.length:Int)):=by omega
      have hjn':¬ (2 * j+1<Y.length):=by omega
      have e0:emit ⟨x0,x1,[]⟩=[]:=rfl
      simp -implicitDefEqProofs [r5_25,k5_25,Rec.sl_len,w2,hjn,hjn',e0,trim_le,-Int.natCast_add,-Int.natCast_mul]
     ·intro nx j s rest o' hj hv hd hw ho ih
      obtain ⟨g1,g2,g3,g4⟩:=ends_at7 hj
      simp only [ee] at g1 g2 g3 g4
      rw [hv] at g3 g4
      have st:=app_rect (h:=[intR.row 3 (U++r),rectR.row 39 o',intR.row 3 Lq]) (b:=1) (lo:=0) (c:=o') ⟨x0,s.1,x1,s.2⟩ rfl (Nat.zero_le _) (by omega)
      have w2:IntKind.i64.wrap (((2 * j:Nat):Int)+1)=((2 * j+1:Nat):Int):=wrap64 (by omega) (by omega)
      have w3:IntKind.i64.wrap (((2 * j:Nat):Int)+2)=((2 * (j+1):Nat):Int):=(wrap64 (by omega) (by omega)).trans (by omega)
      have hjn:((2 * j+1:Nat):Int)<(Y.length:Int):=by omega
      have hjn':2 * j+1<Y.length:=by omega
      have ixa:=ixL (2 * j) g1
      have ixb:=ixL (2 * j+1) g2
      have lda:=int_load (h:=[intR.row 3 (U++r),rectR.row 39 o',intR.row 3 Lq]) (b:=2) (l:=Lq) (i:=2 * j) (sz:=some 1) rfl g1
      have ldb:=int_load (h:=[intR.row 3 (U++r),rectR.row 39 o',intR.row 3 Lq]) (b:=2) (l:=Lq) (i:=2 * j+1) (sz:=some 1) rfl g2
      rw [g3] at lda
      rw [g4] at ldb
      have ih:=ih (o'++[⟨x0,s.1,x1,s.2⟩]) (by rw [List.length_append];show o'.length+1=_;omega)
      rw [emit_cons7,← List.append_assoc]
      simp -implicitDefEqProofs [k5_25,-List.append_assoc,-Int.natCast_add,-Int.natCast_mul] at ih
      simp -implicitDefEqProofs [r5_25,k5_25,Rec.sl_len,wi,w2,w3,hjn,hjn',px,pl,px1,pl1,ixa,ixb,lda,ldb,b4_all,lit_rect,st,trim_le,-List.append_assoc,-Int.natCast_add,-Int.natCast_mul]
      exact ih
    ·simp -implicitDefEqProofs [k5_18,Rec.sl_nil]
    ·rfl
    ·intro nx j c hj _
     simp -implicitDefEqProofs [r5_18,k5_18,hj,sln,hsl,trim_le]
    ·intro nx j s rest c hj hv hd hw hc ih
     have sj:=six j hj
     rw [hv,side_val] at sj
     have us:=up_spec s
     have hjp:j<p.length:=by omega
     have ap:=fun q=>app_num (h:=[intR.row 3 (U++r),rectR.row 39 o,intR.row 3 c,q]) (b:=2) (lo:=0) (c:=c) s.1.2 rfl (Nat.zero_le _) (by omega)
     cases hu:upS s
     ·rw [hu] at us
      by_cases m1:min s.1.1 s.2.1≤x0
      ·by_cases m2:x0<max s.1.1 s.2.1
       ·have ih:=ih (c++[s.1.2]) (by simp;omega)
        rw [List.filter_cons_of_pos (Rg.hB_iff.2 ⟨m1,m2⟩),List.map_cons,show c++s.1.2 :: (rest.filter (hB x0)).map (fun s=>s.1.2)=c++[s.1.2]++(rest.filter (hB x0)).map (fun s=>s.1.2) by rw [List.append_assoc];rfl]
        simp -implicitDefEqProofs [k5_18,-List.append_assoc] at ih
        simp -implicitDefEqProofs [r5_18,k5_18,hj,hjp,sln,hsl,sj,ret0 m21,us,px,pl2,min_int,max_int,m1,m2,lit_num,ap,hw,trim_cut,bP,bS,Rec.sl_bel,Rec.row_bel,pre_bel,-List.append_assoc]
        exact ih
       ·have ih:=ih c (by omega)
        rw [List.filter_cons_of_neg (by rw [Rg.hB_iff];omega)]
        simp -implicitDefEqProofs [k5_18,-List.append_assoc] at ih
        simp -implicitDefEqProofs [r5_18,k5_18,hj,hjp,sln,hsl,sj,ret0 m21,us,px,pl2,min_int,max_int,m1,m2,hw,trim_cut,bP,bS,Rec.sl_bel,Rec.row_bel,pre_bel,-List.append_assoc]
        exact ih
      ·have ih:=ih c (by omega)
       rw [List.filter_cons_of_neg (by rw [Rg.hB_iff];omega)]
       simp -implicitDefEqProofs [k5_18,-List.append_assoc] at ih
       simp -implicitDefEqProofs [r5_18,k5_18,hj,hjp,sln,hsl,sj,ret0 m21,us,px,pl2,min_int,max_int,m1,hw,trim_cut,bP,bS,Rec.sl_bel,Rec.row_bel,pre_bel,-List.append_assoc]
       exact ih
     ·rw [hu] at us
      have ih:=ih c (by omega)
      rw [List.filter_cons_of_neg (by rw [hB_up hu];decide)]
      simp -implicitDefEqProofs [k5_18,-List.append_assoc] at ih
      simp -implicitDefEqProofs [r5_18,k5_18,hj,hjp,sln,hsl,sj,ret0 m21,us,px,pl2,min_int,max_int,hw,trim_cut,bP,bS,Rec.sl_bel,Rec.row_bel,pre_bel,-List.append_assoc]
      exact ih
   ·have hi':¬ ((i:Int)<(U.length:Int)-1):=by omega
    rw [strip_end hi,List.append_nil]
    simp -implicitDefEqProofs [r5_14,k5_14,pre_len,wl,hi,hi',trim_le]
 ·simp -implicitDefEqProofs [k5_5,Rec.sl_nil]
 ·rfl
 ·intro nx i c hi _
  simp -implicitDefEqProofs [r5_5,k5_5,hi,ln,trim_le]
 ·intro nx i v rest c hi hv hd hw hc ih
  have pi:=pix i hi
  rw [hv,span_val] at pi
  have ap:=fun q=>app_num (h:=[intR.row 3 c,q]) (b:=0) (lo:=0) (c:=c) v.1 rfl (Nat.le_refl _) (by omega)
  have ih:=ih (c++[v.1]) (by simp;omega)
  have em:(v :: rest).map (·.1)=[v.1]++rest.map (·.1):=rfl
  rw [em,← List.append_assoc]
  simp -implicitDefEqProofs [k5_5,-List.append_assoc] at ih
  simp -implicitDefEqProofs [r5_5,k5_5,hi,ln,pi,lit_num,ap,hw,trim_cut,bP,Rec.sl_bel,Rec.row_bel,-List.append_assoc]
  exact ih
open Rg (Rect Pt sidesP shoe sumZ shoeP shR rightP)
def areaP (p:List Pt):Int:=if rightP p then (shoeP p).tdiv 2 else 0
theorem shoe_le {s:Pt × Pt} (h1:Rg.onG s.1) (h2:Rg.onG s.2):0≤s.1.1 * s.2.2∧s.1.1 * s.2.2≤1099511627776∧0≤s.2.1 * s.1.2∧s.2.1 * s.1.2≤1099511627776:=by
 obtain ⟨⟨a,b⟩,c,d⟩:=s
 obtain ⟨a0,a1,b0,b1⟩:=h1
 obtain ⟨c0,c1,d0,d1⟩:=h2
 simp only at *
 exact ⟨Int.mul_nonneg a0 d0,Int.le_trans (Int.mul_le_mul a1 d1 d0 (by decide)) (by decide),Int.mul_nonneg c0 b0,Int.le_trans (Int.mul_le_mul c1 b1 b0 (by decide)) (by decide)⟩
set_option maxHeartbeats 1000000 in
theorem parea_spec (x:Bool) (p:List Pt) (hp:p.length≤1000000):pureCall E.P (L E) 10 [lst x (spanR.vals p)]=some (.int .i64 (areaP p)):=by
 have hR:=pright_spec x p hp
 have rf:∀ h,reify E.P 8 h (lst x (spanR.vals p))=some (lst x (spanR.vals p)):=fun _=>rfl
 have sv0:settled depth (lst x (spanR.vals p))=true:=rfl
 have bP:∀ d n,below (d+1) n (lst x (spanR.vals p))=true:=fun d n=>rfl
 unfold areaP
 rw [pureCall_fn F10 rfl]
 cases hr:rightP p
 ·rw [hr] at hR
  simp -implicitDefEqProofs [r10,p10,ret0 m8,rf,hR]
 rw [hr] at hR
 have hpo:=Rg.rightP_poly hr
 obtain ⟨hp4,hp60⟩:=Rg.rightP_len hr
 have ar:=around_spec x p (by omega)
 have sln:=sides_lenT p
 have hsl:=Rg.sides_len p
 have bS:∀ d n,below (d+1) n (lst false (sideR.vals (sidesP p)))=true:=fun d n=>rfl
 have six:∀ (j:Nat) (hj:j<(sidesP p).length),indexAddrT (.sl 48 ⟨some true,some 4⟩) (lst false (sideR.vals (sidesP p))) (.int .i64 (j:Int))=some (cptr (sideR.val (sidesP p)[j])):=fun j hj=>Rec.index_tree rfl hj
 generalize hPV:lst x (spanR.vals p)=PV at *
 generalize hSV:lst false (sideR.vals (sidesP p))=SV at *
 simp -implicitDefEqProofs [r10,p10,ret0 m8,rf,hR,ret1 m20,sv0,ar,sln]
 rw [LL_for (γ:=Int) (sidesP p) 0 (fun i c=>[(3,.int .i64 c),(12,.int .i64 i)]) (fun _ _=>[]) (fun _ rest c=>(.exit 0,[(3,.int .i64 (c+sumZ shoe rest)),(12,undef)],[])) (fun i c=>-2000000000000 * i≤c∧c≤2000000000000 * i) (by omega) (by omega)]
 ·have e:(0:Int)+sumZ shoe (sidesP p)=shoeP p:=Int.zero_add _
  rw [e]
  have hb:-1000000000000000≤shoeP p∧shoeP p≤1000000000000000:=by
   have key:∀ l:List (Pt × Pt),(∀ s∈l,s∈sidesP p)→-2000000000000 * (l.length:Int)≤sumZ shoe l∧sumZ shoe l≤2000000000000 * (l.length:Int):=by
    intro l
    induction l with
    | nil=>intro _;exact ⟨by decide,by decide⟩
    | cons s l ih =>
     intro h
     have ih:=ih fun t ht=>h t (List.mem_cons_of_mem _ ht)
     obtain ⟨m1,m2⟩:=Rg.sides_mem (h s (List.mem_cons_self ..))
     have q:=shoe_le (hpo.grid _ m1) (hpo.grid _ m2)
     have es:sumZ shoe (s :: l)=(s.1.1 * s.2.2-s.2.1 * s.1.2)+sumZ shoe l:=rfl
     have el:((s :: l).length:Int)=(l.length:Int)+1:=by simp
     rw [es,el]
     omega
   have:=key (sidesP p) fun _ h=>h
   rw [hsl] at this
   unfold shoeP
   omega
  have wq:IntKind.i64.wrap ((shoeP p).tdiv 2)=(shoeP p).tdiv 2:=by
   have h1:(shoeP p).tdiv 2≤1000000000000000∧-1000000000000000≤(shoeP p).tdiv 2:=by
    rcases Int.le_total 0 (shoeP p) with h | h
    ·rw [Int.tdiv_eq_ediv_of_nonneg h];omega
    ·obtain ⟨y,hy⟩:∃ y,shoeP p = -y:=⟨-shoeP p,by omega⟩
     rw [hy,Int.neg_tdiv,Int.tdiv_eq_ediv_of_nonneg (by omega)];omega
   exact wrap64 (by omega) (by omega)
  generalize shoeP p=z at *
  simp -implicitDefEqProofs [k10_5,bin_quo,wq]
 ·simp -implicitDefEqProofs [k10_5]
 ·rfl
 ·intro nx i c hi _
  simp -implicitDefEqProofs [r10_5,k10_5,hi,hsl,trim_le,sumZ]
 ·intro nx i s rest c hi hv hd hw hc ih
  have sj:=six i hi
  rw [hv,side_val] at sj
  have hip:i<p.length:=by omega
  obtain ⟨m1,m2⟩:=Rg.sides_mem (by rw [← hv];exact List.getElem_mem hi:s∈sidesP p)
  have q:=shoe_le (hpo.grid _ m1) (hpo.grid _ m2)
  have ea:c+sumZ shoe (s :: rest)=(c+(s.1.1 * s.2.2-s.2.1 * s.1.2))+sumZ shoe rest:=by
   show c+((s.1.1 * s.2.2-s.2.1 * s.1.2)+sumZ shoe rest)=_
   omega
  rw [ea]
  have ih:=ih (c+(s.1.1 * s.2.2-s.2.1 * s.1.2)) (by push_cast;omega)
  have hl:(i:Int)<60:=by omega
  have wu:IntKind.i64.wrap (s.1.1 * s.2.2)=s.1.1 * s.2.2:=wrap64 (by omega) (by omega)
  have wv:IntKind.i64.wrap (s.2.1 * s.1.2)=s.2.1 * s.1.2:=wrap64 (by omega) (by omega)
  have wd:IntKind.i64.wrap (s.1.1 * s.2.2-s.2.1 * s.1.2)=s.1.1 * s.2.2-s.2.1 * s.1.2:=wrap64 (by omega) (by omega)
  have wc:IntKind.i64.wrap (c+(s.1.1 * s.2.2-s.2.1 * s.1.2))=c+(s.1.1 * s.2.2-s.2.1 * s.1.2):=wrap64 (by omega) (by omega)
  simp -implicitDefEqProofs [k10_5] at ih
  simp -implicitDefEqProofs [r10_5,k10_5,hi,hip,hsl,sj,wu,wv,wd,wc,hw,trim_cut,bP,bS]
  exact ih
end Go.Proofs.YtnhdabelepjgbaaGreat.Bm
namespace Go.Proofs.YtnhdabelepjgbaaGreat.Rg
structure Inj (n:Nat) (f:Nat→Nat):Prop where
 lt:∀ i,i<n→f i<n
 inj:∀ i j,i<n→j<n→f i=f j→i=j
def trc (f:Nat→Nat):Nat→List Bool→Nat→List Bool × List Nat
 | 0,d,_=>(d,[])
 | k+1,d,i=>if d[i]?=some false then ((trc f k (d.set i true) (f i)).1,i :: (trc f k (d.set i true) (f i)).2) else (d,[])
structure Cyc (n:Nat) (f:Nat→Nat) (c:List Nat):Prop where
 lt:∀ i∈c,i<n
 nd:c.Nodup
 step:∀ (j:Nat) (h:j+1<c.length),c[j+1]=f c[j]
 back:∀ (h:0<c.length),f (c[c.length-1])=c[0]
structure Clo (n:Nat) (f:Nat→Nat) (d:List Bool):Prop where
 len:d.length=n
 fwd:∀ i,i<n→(d[i]?=some true↔d[f i]?=some true)
structure Way (n:Nat) (f:Nat→Nat) (d:List Bool) (c:List Nat) (i:Nat) (e:List Bool):Prop where
 lt:∀ j∈c,j<n
 nd:c.Nodup
 step:∀ (j:Nat) (h:j+1<c.length),c[j+1]=f c[j]
 last:∀ (h:0<c.length),f (c[c.length-1])=i
 il:i<n
 mark:∀ j,j<n→(e[j]?=some true↔d[j]?=some true∨j∈c)
 len:e.length=n
 free:∀ j∈c,d[j]?=some false
theorem set_mark {e:List Bool} {i n:Nat} (hl:e.length=n) (hi:i<n) (j:Nat) (_hj:j<n):(e.set i true)[j]?=some true↔e[j]?=some true∨j=i:=by
 rw [List.getElem?_set]
 by_cases q:i=j
 ·subst q
  rw [if_pos rfl,if_pos (by omega)]
  simp
 ·rw [if_neg q]
  constructor
  ·exact .inl
  ·rintro (h | h)
   ·exact h
   ·exact absurd h.symm q
theorem false_or_true {e:List Bool} {j:Nat} (h:j<e.length):e[j]?=some false∨e[j]?=some true:=by
 rw [List.getElem?_eq_getElem h]
 cases e[j] <;> simp
theorem Way.go {n:Nat} {f:Nat→Nat} (hf:Inj n f) {d e:List Bool} {c:List Nat} {i:Nat} (hd:d.length=n) (h:Way n f d c i e) (hi:e[i]?=some false):Way n f d (c++[i]) (f i) (e.set i true):=by
 have hic:i ∉ c:=fun q=>by
  have:=(h.mark i h.il).2 (.inr q)
  rw [hi] at this;cases this
 have hdi:d[i]?=some false:=by
  rcases false_or_true (e:=d) (j:=i) (by rw [hd];exact h.il) with q | q
  ·exact q
  ·have:=(h.mark i h.il).2 (.inl q)
   rw [hi] at this;cases this
 refine ⟨fun j hj=>?_,?_,fun j hj=>?_,fun _=>?_,hf.lt i h.il,fun j hj=>?_,by rw [List.length_set];exact h.len,fun j hj=>?_⟩
 ·rcases List.mem_append.1 hj with q | q
  ·exact h.lt j q
  ·rw [List.mem_singleton.1 q];exact h.il
 ·rw [List.nodup_append]
  exact ⟨h.nd,by simp,fun a ha b hb=>by rw [List.mem_singleton.1 hb];exact fun q=>hic (q ▸ ha)⟩
 ·rw [List.length_append] at hj
  have hj:j+1<c.length+1:=hj
  by_cases q:j+1<c.length
  ·rw [List.getElem_append_left q,List.getElem_append_left (by omega)]
   exact h.step j q
  ·have e1:j+1=c.length:=by omega
   rw [List.getElem_append_right (by omega),List.getElem_append_left (by omega)]
   have:=h.last (by omega)
   have e2:c.length-1=j:=by omega
   simp only [e2] at this
   simp [this]
 ·simp
 ·rw [set_mark h.len h.il j hj,h.mark j hj,List.mem_append,List.mem_singleton]
  constructor
  ·rintro ((q | q) | q)
   ·exact .inl q
   ·exact .inr (.inl q)
   ·exact .inr (.inr q)
  ·rintro (q | q | q)
   ·exact .inl (.inl q)
   ·exact .inl (.inr q)
   ·exact .inr q
 ·rcases List.mem_append.1 hj with q | q
  ·exact h.free j q
  ·rw [List.mem_singleton.1 q];exact hdi
theorem Way.closed {n:Nat} {f:Nat→Nat} (hf:Inj n f) {d e:List Bool} {c:List Nat} {i:Nat} (hd:Clo n f d) (h:Way n f d c i e) (h0:0<c.length) (hi:¬ e[i]?=some false):i=c[0]:=by
 have hl:=h.last h0
 have hcl:c[c.length-1]∈c:=List.getElem_mem _
 have hm:e[i]?=some true:=by
  rcases false_or_true (e:=e) (j:=i) (by rw [h.len];exact h.il) with q | q
  ·exact absurd q hi
  ·exact q
 rcases (h.mark i h.il).1 hm with q | q
 ·exfalso
  rw [← hl] at q
  have:=(hd.fwd _ (h.lt _ hcl)).2 q
  rw [h.free _ hcl] at this;cases this
 ·obtain ⟨j,hj,e1⟩:=List.getElem_of_mem q
  cases j with
  | zero=>exact e1.symm
  | succ j =>
   exfalso
   have hs:=h.step j hj
   rw [e1,← hl] at hs
   have:=hf.inj _ _ (h.lt _ hcl) (h.lt _ (List.getElem_mem _)) hs
   have:=(List.getElem_inj h.nd).1 this
   omega
def freeN (d:List Bool):Nat:=d.countP (· == false)
theorem freeN_set:∀ {d:List Bool} {i:Nat},d[i]?=some false→freeN (d.set i true)+1=freeN d
 | [],i,h=>by simp at h
 | b :: d,0,h=>by
  have:b=false:=by simpa using h
  subst this
  simp [freeN]
 | b :: d,i+1,h=>by
  have ih:=freeN_set (d:=d) (i:=i) (by simpa using h)
  unfold freeN at *
  rw [List.set_cons_succ,List.countP_cons,List.countP_cons]
  omega
theorem trc_way {n:Nat} {f:Nat→Nat} (hf:Inj n f) {d:List Bool} (hd:Clo n f d):∀ (k:Nat) (e:List Bool) (c:List Nat) (i:Nat),Way n f d c i e→freeN e<k→0<c.length∨e[i]?=some false →
  Cyc n f (c++(trc f k e i).2)∧(∀ j,j<n→((trc f k e i).1[j]?=some true↔d[j]?=some true∨j∈c++(trc f k e i).2))∧(trc f k e i).1.length=n∧(∀ j∈c++(trc f k e i).2,d[j]?=some false)
 | 0,e,c,i,_,hk,_=>absurd hk (Nat.not_lt_zero _)
 | k+1,e,c,i,h,hk,h0=>by
  unfold trc
  by_cases hi:e[i]?=some false
  ·rw [if_pos hi]
   have ih:=trc_way hf hd k (e.set i true) (c++[i]) (f i) (h.go hf hd.len hi) (by have:=freeN_set hi;omega) (.inl (by simp))
   rw [List.append_assoc] at ih
   exact ih
  ·rw [if_neg hi,List.append_nil]
   have h0:0<c.length:=by
    rcases h0 with q | q
    ·exact q
    ·exact absurd q hi
   have hc:=h.closed hf hd h0 hi
   exact ⟨⟨h.lt,h.nd,h.step,fun _=>by rw [h.last h0];exact hc⟩,h.mark,h.len,h.free⟩
theorem Cyc.clo {n:Nat} {f:Nat→Nat} (hf:Inj n f) {c:List Nat} (hc:Cyc n f c):∀ i,i<n→(i∈c↔f i∈c):=fun i hi=>by
 constructor
 ·intro h
  obtain ⟨j,hj,rfl⟩:=List.getElem_of_mem h
  by_cases q:j+1<c.length
  ·rw [← hc.step j q];exact List.getElem_mem _
  ·have e:j=c.length-1:=by omega
   subst e
   rw [hc.back (by omega)];exact List.getElem_mem _
 ·intro h
  obtain ⟨j,hj,e⟩:=List.getElem_of_mem h
  cases j with
  | zero =>
   have hb:=hc.back (by omega)
   rw [e] at hb
   have:=hf.inj _ _ (hc.lt _ (List.getElem_mem _)) hi hb
   rw [← this];exact List.getElem_mem _
  | succ j =>
   have hs:=hc.step j hj
   rw [e] at hs
   have:=hf.inj _ _ hi (hc.lt _ (List.getElem_mem _)) hs
   rw [this];exact List.getElem_mem _
def waysF (f:Nat→Nat) (n:Nat):Nat→Nat→List Bool→List (List Nat)
 | 0,_,_=>[]
 | m+1,i,d=>(trc f (n+1) d i).2 :: waysF f n m (i+1) (trc f (n+1) d i).1
theorem freeN_le (d:List Bool):freeN d≤d.length:=List.countP_le_length
theorem ways_told {n:Nat} {f:Nat→Nat} (hf:Inj n f):∀ (m i:Nat) (d:List Bool),i+m=n→Clo n f d→(∀ j,j<i→d[j]?=some true) →
  (∀ c∈waysF f n m i d,Cyc n f c)∧(waysF f n m i d).flatten.Nodup∧(∀ j,j<n→(j∈(waysF f n m i d).flatten↔d[j]?=some false))
 | 0,i,d,h,hd,hb=>by
  refine ⟨fun c hc=>absurd hc List.not_mem_nil,List.nodup_nil,fun j hj=>⟨fun q=>absurd q List.not_mem_nil,fun q=>?_⟩⟩
  rw [hb j (by omega)] at q;cases q
 | m+1,i,d,h,hd,hb=>by
  have hi:i<n:=by omega
  unfold waysF
  rw [List.flatten_cons]
  by_cases q:d[i]?=some false
  ·obtain ⟨c1,c2,c3,c4⟩:=trc_way hf hd (n+1) d [] i ⟨fun j hj=>absurd hj List.not_mem_nil,List.nodup_nil,fun j hj=>absurd hj (Nat.not_lt_zero _),fun hj=>absurd hj (Nat.lt_irrefl _),hi,fun j _=>by simp,hd.len,fun j hj=>absurd hj List.not_mem_nil⟩ (by have:=freeN_le d;rw [hd.len] at this;omega) (.inr q)
   simp only [List.nil_append] at c1 c2 c4
   have hc:(trc f (n+1) d i).2=i :: (trc f n (d.set i true) (f i)).2:=by
    show (if d[i]?=some false then _ else _:List Bool × List Nat).2=_
    rw [if_pos q]
   have hic:i∈(trc f (n+1) d i).2:=by rw [hc];exact List.mem_cons_self ..
   generalize trc f (n+1) d i=r at *
   obtain ⟨e,c⟩:=r
   simp only at c1 c2 c3 c4 hic ⊢
   have he:Clo n f e:=⟨c3,fun j hj=>by rw [c2 j hj,c2 _ (hf.lt j hj),hd.fwd j hj,c1.clo hf j hj]⟩
   obtain ⟨i1,i2,i3⟩:=ways_told hf m (i+1) e (by omega) he fun j hj=>by
    by_cases p:j=i
    ·rw [p];exact (c2 i hi).2 (.inr hic)
    ·exact (c2 j (by omega)).2 (.inl (hb j (by omega)))
   have hef:∀ j,j<n→(e[j]?=some false↔d[j]?=some false∧j ∉ c):=fun j hj=>by
    have:=c2 j hj
    rcases false_or_true (e:=e) (j:=j) (by omega) with p | p
    ·rw [p] at this
     have h1:¬ (d[j]?=some true∨j∈c):=fun x=>by have:=this.2 x;cases this
     constructor
     ·intro _
      rcases false_or_true (e:=d) (j:=j) (by rw [hd.len];exact hj) with p2 | p2
      ·exact ⟨p2,fun x=>h1 (.inr x)⟩
      ·exact absurd (.inl p2) h1
     ·exact fun _=>p
    ·constructor
     ·intro x;rw [p] at x;cases x
     ·rintro ⟨x,y⟩
      rcases this.1 p with z | z
      ·rw [x] at z;cases z
      ·exact absurd z y
   refine ⟨fun c' hc'=>?_,?_,fun j hj=>?_⟩
   ·rcases List.mem_cons.1 hc' with p | p
    ·rw [p];exact c1
    ·exact i1 c' p
   ·rw [List.nodup_append]
    refine ⟨c1.nd,i2,fun a ha b hb2 hab=>?_⟩
    subst hab
    have:=(i3 a (c1.lt a ha)).1 hb2
    exact ((hef a (c1.lt a ha)).1 this).2 ha
   ·rw [List.mem_append,i3 j hj,hef j hj]
    constructor
    ·rintro (p | p)
     ·exact c4 j p
     ·exact p.1
    ·intro p
     by_cases x:j∈c
     ·exact .inl x
     ·exact .inr ⟨p,x⟩
  ·have hc:trc f (n+1) d i=(d,[]):=by unfold trc;rw [if_neg q]
   rw [hc]
   obtain ⟨i1,i2,i3⟩:=ways_told hf m (i+1) d (by omega) hd fun j hj=>by
    by_cases p:j=i
    ·rw [p]
     rcases false_or_true (e:=d) (j:=i) (by rw [hd.len];exact hi) with p2 | p2
     ·exact absurd p2 q
     ·exact p2
    ·exact hb j (by omega)
   refine ⟨fun c' hc'=>?_,by rw [List.nil_append];exact i2,fun j hj=>by rw [List.nil_append];exact i3 j hj⟩
   rcases List.mem_cons.1 hc' with p | p
   ·rw [p]
    exact ⟨fun j hj=>absurd hj List.not_mem_nil,List.nodup_nil,fun j hj=>absurd hj (Nat.not_lt_zero _),fun hj=>absurd hj (Nat.lt_irrefl _)⟩
   ·exact i1 c' p
end Go.Proofs.YtnhdabelepjgbaaGreat.Rg
namespace Go.Proofs.YtnhdabelepjgbaaGreat.Rg
abbrev Sd:=Pt × Pt
def stS (s:Sd):Prop:=if upS s=true then s.1.2≠s.2.2 else s.1.2=s.2.2
def cornI:List Sd→List Pt
 | []=>[]
 | [_]=>[]
 | s :: t :: q=>(if upS s=upS t then [] else [s.2])++cornI (t :: q)
def corn (z:Sd):List Sd→List Pt
 | []=>[]
 | [s]=>if upS s=upS z then [] else [s.2]
 | s :: t :: q=>(if upS s=upS t then [] else [s.2])++corn z (t :: q)
def corners:List Sd→List Pt
 | []=>[]
 | s :: q=>corn s (s :: q)
def endS:List Sd→Pt
 | []=>(0,0)
 | [s]=>s.2
 | _ :: t :: q=>endS (t :: q)
def lastS (s:Sd):List Sd→Sd
 | []=>s
 | t :: q=>lastS t q
theorem corn_I (z:Sd):∀ (q:List Sd) (s:Sd),corn z (s :: q)=cornI (s :: q)++(if upS (lastS s q)=upS z then [] else [(lastS s q).2])
 | [],s=>rfl
 | t :: q,s=>by
  have ih:=corn_I z q t
  show (if upS s=upS t then [] else [s.2])++corn z (t :: q)=((if upS s=upS t then [] else [s.2])++cornI (t :: q))++_
  rw [ih,List.append_assoc];rfl
theorem end_last:∀ (q:List Sd) (s:Sd),endS (s :: q)=(lastS s q).2
 | [],s=>rfl
 | t :: q,s=>end_last q t
structure Addt (φ:Sd→Int):Prop where
 up:∀ x a b c,φ ((x,a),(x,b))+φ ((x,b),(x,c))=φ ((x,a),(x,c))
 ho:∀ y a b c,φ ((a,y),(b,y))+φ ((b,y),(c,y))=φ ((a,y),(c,y))
def psum (φ:Sd→Int):Pt→List Pt→Pt→Int
 | a,[],z=>φ (a,z)
 | a,b :: l,z=>φ (a,b)+psum φ b l z
def ssum (φ:Sd→Int) (q:List Sd):Int:=(q.map φ).sum
theorem psum_split (φ:Sd→Int):∀ (l:List Pt) (a b:Pt) (m:List Pt) (z:Pt),psum φ a (l++b :: m) z=psum φ a l b+psum φ b m z
 | [],a,b,m,z=>rfl
 | c :: l,a,b,m,z=>by
  show φ (a,c)+psum φ c (l++b :: m) z=(φ (a,c)+psum φ c l b)+_
  rw [psum_split φ l c b m z];omega
def csum (φ:Sd→Int):List Pt→Int
 | []=>0
 | a :: l=>psum φ a l a
theorem csum_rot (φ:Sd→Int):∀ (l m:List Pt),csum φ (l++m)=csum φ (m++l)
 | [],m=>by rw [List.nil_append,List.append_nil]
 | a :: l,[]=>by rw [List.nil_append,List.append_nil]
 | a :: l,b :: m=>by
  show psum φ a (l++b :: m) a=psum φ b (m++a :: l) b
  rw [psum_split,psum_split];omega
theorem csum_sides (φ:Sd→Int) (p:List Pt):csum φ p=ssum φ (sidesP p):=by
 cases p with
 | nil=>rfl
 | cons a l =>
  have key:∀ (l:List Pt) (a z:Pt),psum φ a l z=(((a :: l).zip (l++[z])).map φ).sum:=by
   intro l
   induction l with
   | nil=>intro a z;show φ (a,z)=φ (a,z)+0;omega
   | cons b l ih=>intro a z;show φ (a,b)+psum φ b l z=φ (a,b)+_;rw [ih];rfl
  exact key l a a
def inl (o:Bool) (a b:Pt):Prop:=if o=true then a.1=b.1 else a.2=b.2
theorem Addt.app {φ:Sd→Int} (h:Addt φ) {o:Bool} {a b c:Pt} (h1:inl o a b) (h2:inl o b c):φ (a,b)+φ (b,c)=φ (a,c):=by
 obtain ⟨a1,a2⟩:=a
 obtain ⟨b1,b2⟩:=b
 obtain ⟨c1,c2⟩:=c
 cases o
 ·have e1:a2=b2:=h1
  have e2:b2=c2:=h2
  subst e1;subst e2
  exact h.ho _ _ _ _
 ·have e1:a1=b1:=h1
  have e2:b1=c1:=h2
  subst e1;subst e2
  exact h.up _ _ _ _
end Go.Proofs.YtnhdabelepjgbaaGreat.Rg
