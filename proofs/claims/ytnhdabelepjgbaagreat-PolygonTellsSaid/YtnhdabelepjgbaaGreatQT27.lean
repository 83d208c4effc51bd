/-
 Chapter 07: turns, the least point, points in a row: walked. Conditions: lists that are not too long.
-/
import Derived.Test.YtnhdabelepjgbaaGreatQT17
import Derived.Test.YtnhdabelepjgbaaGreatQT26
namespace Go.Proofs.YtnhdabelepjgbaaGreat.Bm
open Go Go.RowKit
theorem Rec.app_nil {α:Type} {R:Rec α} {el:El} {h:Heap} {lo:Nat} {st:Bool} {m:List α} {u:Value} (hel:el.size=R.m+1) (hu:sliceCells h el.size u=some (R.flat m,m.length)) (hm:m≠[]) (hb:m.length * el.bytes≤2 ^ 47) :
  appendT (some el) h lo st (.slice none 0 0) u=some (R.sl h.length m,h++[R.row el.e m]):=by
 have hm0:m.length≠0:=fun e=>hm (List.eq_nil_of_length_eq_zero e)
 rw [append_nil,hu]
 simp only [Option.bind_some]
 rw [if_neg hm0,if_pos hb,Rec.flat_len]
 unfold Rec.row
 rw [hel]
 rfl
section
variable {α κ:Type} [DecidableEq κ] {R:Rec α} {t:TypeId} {lo:Nat} {h:Heap} {l:List (κ × Value)} {bl:κ→Nat} {f:κ→List α}
structure MR (R:Rec α) (t:TypeId) (lo:Nat) (h:Heap) (l:List (κ × Value)) (bl:κ→Nat) (f:κ→List α):Prop where
 non:∀ k,aget l k=none→f k=[]
 val:∀ k v,aget l k=some v→v=R.sl (bl k) (f k)∧h[bl k]?=some (R.row t (f k))∧lo≤bl k
 inj:∀ k j,aget l k≠none→aget l j≠none→bl k=bl j→k=j
def upd (f:κ→List α) (k:κ) (v:List α):κ→List α:=fun j=>if k=j then v else f j
def updB (f:κ→Nat) (k:κ) (v:Nat):κ→Nat:=fun j=>if k=j then v else f j
theorem get_lt {h:Heap} {b:Nat} {x:AObj} (q:h[b]?=some x):b<h.length:=by
 rcases Nat.lt_or_ge b h.length with c | c
 ·exact c
 ·rw [List.getElem?_eq_none c] at q;cases q
theorem MR.init:MR R t lo h ([]:List (κ × Value)) bl fun _=>[]:=⟨fun _ _=>rfl,fun k v q=>by simp [aget] at q,fun k j q=>absurd rfl q⟩
theorem MR.keep {h':Heap} (M:MR R t lo h l bl f) (hk:∀ o x,lo≤o→h[o]?=some x→h'[o]?=some x):MR R t lo h' l bl f :=
 ⟨M.non,fun k v q=>⟨(M.val k v q).1,hk _ _ (M.val k v q).2.2 (M.val k v q).2.1,(M.val k v q).2.2⟩,M.inj⟩
theorem MR.keepB {h':Heap} (M:MR R t lo h l bl f) (hk:∀ k x,aget l k≠none→h[bl k]?=some x→h'[bl k]?=some x):MR R t lo h' l bl f :=
 ⟨M.non,fun k v q=>⟨(M.val k v q).1,hk k _ (by rw [q];simp) (M.val k v q).2.1,(M.val k v q).2.2⟩,M.inj⟩
theorem MR.lt (M:MR R t lo h l bl f) {k:κ} (hk:aget l k≠none):lo≤bl k∧bl k<h.length:=by
 cases q:aget l k with
 | none=>exact absurd q hk
 | some v=>exact ⟨(M.val k v q).2.2,get_lt (M.val k v q).2.1⟩
theorem MR.add {el:El} (M:MR R el.e lo h l bl f) {l0:Nat} (h0:l0≤lo) (h1:lo≤h.length) (k:κ) (a:α) {u:Value} (hel:el.size=R.m+1) (hu:∀ h,sliceCells h el.size u=some (R.flat [a],1)) (hf:((f k).length+1) * el.bytes≤2 ^ 47) :
  ∃ h' bl',appendT (some el) h l0 false ((aget l k).getD (.slice none 0 0)) u=some (R.sl (bl' k) (f k++[a]),h')∧MR R el.e lo h' (aset l k (R.sl (bl' k) (f k++[a]))) bl' (upd f k (f k++[a]))∧h.length≤h'.length∧(∀ o x,o<lo→h[o]?=some x→h'[o]?=some x):=by
 cases q:aget l k with
 | none =>
  have hn:=M.non k q
  rw [hn]
  refine ⟨h++[R.row el.e [a]],updB bl k h.length,?_,⟨fun j hj=>?_,fun j v hj=>?_,fun i j hi hj e=>?_⟩,by simp,fun o x ho hx=>by rw [List.getElem?_append_left (by omega)];exact hx⟩
  ·have e:updB bl k h.length k=h.length:=if_pos rfl
   rw [e]
   exact Rec.app_nil (R:=R) (m:=[a]) hel (hu h) (by simp) (by rw [hn] at hf;simpa using hf)
  ·rw [aget_set] at hj
   split at hj
   ·cases hj
   ·rename_i c;unfold upd;rw [if_neg c];exact M.non j hj
  ·rw [aget_set] at hj
   unfold upd updB
   split at hj
   ·rename_i c
    subst c
    rw [if_pos rfl,if_pos rfl]
    refine ⟨?_,by simp,h1⟩
    cases hj
    unfold updB;rw [if_pos rfl]
   ·rename_i c
    rw [if_neg c,if_neg c]
    obtain ⟨m1,m2,m3⟩:=M.val j v hj
    exact ⟨m1,by rw [List.getElem?_append_left (get_lt m2)];exact m2,m3⟩
  ·rw [aget_set] at hi hj
   unfold updB at e
   split at hi
   ·rename_i c
    split at hj
    ·rename_i d;exact c.symm.trans d
    ·rename_i d
     rw [if_pos c,if_neg d] at e
     cases qj:aget l j with
     | none=>exact absurd qj hj
     | some v =>
      have:=get_lt (M.val j v qj).2.1
      omega
   ·rename_i c
    split at hj
    ·rename_i d
     rw [if_neg c,if_pos d] at e
     cases qi:aget l i with
     | none=>exact absurd qi hi
     | some v =>
      have:=get_lt (M.val i v qi).2.1
      omega
    ·rename_i d
     rw [if_neg c,if_neg d] at e
     exact M.inj i j hi hj e
 | some v =>
  obtain ⟨m1,m2,m3⟩:=M.val k v q
  subst m1
  refine ⟨h.set (bl k) (R.row el.e (f k++[a])),bl,Rec.app (R:=R) (m:=[a]) hel m2 (hu h) (Nat.le_trans h0 m3) hf,⟨fun j hj=>?_,fun j v hj=>?_,fun i j hi hj e=>?_⟩,by simp,fun o x ho hx=>by rw [List.getElem?_set_ne (by omega)];exact hx⟩
  ·rw [aget_set] at hj
   split at hj
   ·cases hj
   ·rename_i c;unfold upd;rw [if_neg c];exact M.non j hj
  ·rw [aget_set] at hj
   unfold upd
   split at hj
   ·rename_i c
    subst c
    rw [if_pos rfl]
    cases hj
    exact ⟨rfl,by rw [List.getElem?_set_self (get_lt m2)],m3⟩
   ·rename_i c
    rw [if_neg c]
    obtain ⟨n1,n2,n3⟩:=M.val j v hj
    refine ⟨n1,?_,n3⟩
    rw [List.getElem?_set_ne fun e=>c (M.inj k j (by rw [q];simp) (by rw [hj];simp) e)]
    exact n2
  ·rw [aget_set] at hi hj
   refine M.inj i j ?_ ?_ e
   ·split at hi
    ·rename_i c;rw [← c,q];simp
    ·exact hi
   ·split at hj
    ·rename_i c;rw [← c,q];simp
    ·exact hj
theorem MR.trim {enc:κ→Value} {m n:Nat} {vs:List Value} (M:MR R t lo h l bl f) (hm:h[m]?=some (mapB enc l)) (hmn:m<n):MR R t lo (Bm.trim n vs h) l bl f:=by
 unfold Bm.trim
 split
 ·exact M
 split
 ·rename_i hc
  rw [Bool.and_eq_true] at hc
  have hc:=hc.2
  have hb:belowO n (mapB enc l)=true:=List.all_eq_true.1 hc _ (List.mem_of_getElem? (i:=m) (by rw [List.getElem?_take_of_lt hmn];exact hm))
  have hall:∀ (l:List (κ × Value)) (i:Nat),((ents enc l i).all fun e=>below 8 n e.key && below 8 n e.val)=true→∀ k v,aget l k=some v→below 8 n v=true:=by
   intro l
   induction l with
   | nil=>intro i _ k v q;simp [aget] at q
   | cons p l ih =>
    intro i ha k v q
    simp only [ents,List.all_cons,Bool.and_eq_true] at ha
    unfold aget at q
    split at q
    ·cases q;exact ha.1.2
    ·exact ih _ ha.2 k v q
  refine ⟨M.non,fun k v q=>?_,M.inj⟩
  obtain ⟨m1,m2,m3⟩:=M.val k v q
  have hv:=hall l 0 hb k v q
  rw [m1] at hv
  have hv:bl k<n:=of_decide_eq_true hv
  exact ⟨m1,by rw [List.getElem?_take_of_lt hv];exact m2,m3⟩
 ·exact M
theorem trim_get {n o:Nat} {vs:List Value} {x:AObj} (ho:o<n) (hx:h[o]?=some x):(Bm.trim n vs h)[o]?=some x:=by
 unfold Bm.trim
 split
 ·exact hx
 split
 ·rw [List.getElem?_take_of_lt ho];exact hx
 ·exact hx
end
theorem LL_uxk {k:List Nat × List Nat} {b:Body} {σ₀:Slots} {h₀:Heap} {X:CRes} (hX:LL k b σ₀ h₀=X) {α U:Type} (a₀:α) (up:α→List (Nat × Value)) (H:α→Heap) (e:Exit) (ups:U→List (Nat × Value)) (K:U→Heap→Prop) (I:α→Prop) (ms:α→Nat)
  (hI:I a₀) (e0:sets (up a₀) (forget k.1 σ₀)=forget k.1 σ₀) (e1:H a₀=h₀)
  (step:∀ (nx:Body) a,I a→(∀ a',ms a'<ms a→I a'→∃ u h',nx (sets (up a') (forget k.1 σ₀)) (H a')=fin (forget k.1 σ₀) (e,ups u,h')∧K u h') →
   ∃ u h',lopK k.1 k.2 nx (H a).length (b (forget k.1 (sets (up a) (forget k.1 σ₀))) (H a))=fin (forget k.1 σ₀) (e,ups u,h')∧K u h') :
  ∃ u h',X=fin (forget k.1 σ₀) (e,ups u,h')∧K u h':=by
 rw [← hX]
 exact LL_ux a₀ up H e ups K I ms hI e0 e1 step
open Rg (Rect Pt sortU endsX begsX)
theorem lookup_get {P:Program} {κ:Type} [DecidableEq κ] {enc:κ→Value} {l:List (κ × Value)} {kt:TypeId} {k:κ} {r:Nat} {h:Heap} {zv:Value} (K:KeyEnc P kt enc) (hh:h[r]?=some (mapB enc l)) :
  lookupT P (some ⟨kt,some zv⟩) h (.map (some r)) (enc k) false=some ((aget l k).getD zv):=by
 cases q:aget l k with
 | none=>rw [lookup_none K rfl hh q];rfl
 | some v=>rw [lookup_some K rfl hh q];rfl
theorem uI:E.P.underlying 3=some (.int .i64):=by kernel_rfl
def encI (z:Int):Value:=.int .i64 z
theorem keyI:KeyEnc E.P 3 encI:=⟨fun _=>rfl,fun _=>by simp [encI,keyOk,uI],fun a b=>by simp [encI,aKeyEq,uI,Instr.sameNow];rfl,fun _=>by simp [encI,Instr.sameBits]⟩
theorem MR.congr {α κ:Type} [DecidableEq κ] {R:Rec α} {t:TypeId} {lo:Nat} {h:Heap} {l:List (κ × Value)} {bl:κ→Nat} {f g:κ→List α} (M:MR R t lo h l bl f) (e:∀ k,f k=g k):MR R t lo h l bl g:=by
 have:f=g:=funext e
 rw [← this];exact M
theorem begs_snoc {a:List Rect} {i:Nat} (hi:i<a.length) (x:Int):upd (fun x=>begsX (a.take i) x) a[i].x0 (begsX (a.take i) a[i].x0++[a[i]]) x=begsX (a.take (i+1)) x:=by
 have e:a.take (i+1)=a.take i++[a[i]]:=by rw [List.take_add_one,List.getElem?_eq_getElem hi];rfl
 unfold upd begsX
 rw [e,List.filter_append]
 by_cases q:a[i].x0=x
 ·rw [if_pos q,q];simp [q]
 ·rw [if_neg q];simp [q]
theorem ends_snoc {a:List Rect} {i:Nat} (hi:i<a.length) (x:Int):upd (fun x=>endsX (a.take i) x) a[i].x1 (endsX (a.take i) a[i].x1++[a[i]]) x=endsX (a.take (i+1)) x:=by
 have e:a.take (i+1)=a.take i++[a[i]]:=by rw [List.take_add_one,List.getElem?_eq_getElem hi];rfl
 unfold upd endsX
 rw [e,List.filter_append]
 by_cases q:a[i].x1=x
 ·rw [if_pos q,q];simp [q]
 ·rw [if_neg q];simp [q]
theorem frz_cell {g:Heap} (r:Rect):freezeV E.P depth 0 (g++[.cells 39 [.int .i64 r.x0,.int .i64 r.y0,.int .i64 r.x1,.int .i64 r.y1] 0]) (.pointer (some ⟨g.length,0,none⟩))=some (cptr (.agg ⟨[.int .i64 r.x0,.int .i64 r.y0,.int .i64 r.x1,.int .i64 r.y1]⟩),g++[.dead]):=by
 have key:=obj_frz (P:=E.P) (h:=g++[.cells 39 [.int .i64 r.x0,.int .i64 r.y0,.int .i64 r.x1,.int .i64 r.y1] 0]) (b:=g.length) (lo:=0) (t:=39) (c:=[.int .i64 r.x0,.int .i64 r.y0,.int .i64 r.x1,.int .i64 r.y1]) end0 s32 a32 (Nat.zero_le _) rfl
 rw [set0] at key
 exact key
def elR:El:=⟨39,4,32,.agg ⟨[.int .i64 0,.int .i64 0,.int .i64 0,.int .i64 0]⟩,⟨some true,some 4⟩⟩
theorem columns_spec (k:Option Bool) (a:List Rect) (hk:Rec.Ok k a) (ha:a.length≤1000000) (h:Heap) :
  ∃ l bl g,L E 54 [rectR.o k a] h 0=some (.map (some h.length),g)∧g[h.length]?=some (mapB encI l)∧MR rectR 39 (h.length+1) g l bl (fun x=>begsX a x)∧(∀ o x,o<h.length→h[o]?=some x→g[o]?=some x):=by
 have bA:∀ d n,below (d+1) n (rectR.o k a)=true:=fun d n=>Rec.o_bel
 have lA:∀ h,lenT .sl h (rectR.o k a)=some (.int .i64 a.length):=fun h=>Rec.o_len hk
 have ix:∀ (i:Nat) (hi:i<a.length),indexAddrT (.sl 39 ⟨some true,some 4⟩) (rectR.o k a) (.int .i64 (i:Int))=some (cptr (rectR.val a[i])):=fun i hi=>Rec.o_index (R:=rectR) rfl hk hi
 rw [L_fn F54 rfl]
 generalize hVA:rectR.o k a=VA at *
 have fm:flat (.map none)=true:=rfl
 simp -implicitDefEqProofs [r54,p54,lA,fm]
 generalize hX:LL _ _ _ _=X
 obtain ⟨u,g,rfl,hg⟩:=LL_uxk hX (α:=Nat × List (Int × Value) × (Int→Nat) × Heap) (U:=List (Int × Value) × (Int→Nat)) (0,[],fun _=>0,h++[mapB encI []]) (fun c=>[(9,.int .i64 (c.1:Int))]) (fun c=>c.2.2.2) (.exit 0) (fun _=>[(9,undef)])
   (fun u g=>g[h.length]?=some (mapB encI u.1)∧MR rectR 39 (h.length+1) g u.1 u.2 (fun x=>begsX a x)∧(∀ o x,o<h.length→h[o]?=some x→g[o]?=some x))
   (fun c=>c.1≤a.length∧c.2.2.2[h.length]?=some (mapB encI c.2.1)∧MR rectR 39 (h.length+1) c.2.2.2 c.2.1 c.2.2.1 (fun x=>begsX (a.take c.1) x)∧(∀ o x,o<h.length→h[o]?=some x→c.2.2.2[o]?=some x)) (fun c=>a.length-c.1)
  ⟨Nat.zero_le _,end0,MR.init,fun o x ho hx=>by rw [List.getElem?_append_left ho];exact hx⟩
  (by simp -implicitDefEqProofs [k54_3]) rfl (by
  intro nx c hc ih
  obtain ⟨i,l,bl,g⟩:=c
  obtain ⟨h1,h2,h3,h4⟩:=hc
  simp only at h1 h2 h3 h4
  have hgl:=get_lt h2
  by_cases hi:i<a.length
  ·have e0:=ix i hi
   have m0:(g++[AObj.dead])[h.length]?=some (mapB encI l):=by rw [List.getElem?_append_left hgl];exact h2
   have M0:MR rectR 39 (h.length+1) (g++[AObj.dead]) l bl (fun x=>begsX (a.take i) x):=h3.keep fun o x _ hx=>by rw [List.getElem?_append_left (get_lt hx)];exact hx
   have hbl:(begsX (a.take i) a[i].x0).length≤i:=by
    have h1:(begsX (a.take i) a[i].x0).length≤(a.take i).length:=List.length_filter_le _ _
    rw [List.length_take] at h1;omega
   obtain ⟨h',bl',ap,M1,hl1,hk1⟩:=M0.add (el:=elR) (l0:=0) (Nat.zero_le _) (by simp;omega) a[i].x0 a[i] (u:=lst true [rectR.val a[i]]) rfl (fun h=>Rec.cells_tree (R:=rectR) rfl [a[i]]) (by show (_+1) * 32≤2 ^ 47;omega)
   have m1:=hk1 _ _ (by omega) m0
   have M1:=M1.congr (begs_snoc hi)
   have lk:=lookup_get (P:=E.P) (h:=g++[AObj.dead]) (zv:=.slice none 0 0) (k:=a[i].x0) keyI m0
   have pm:=put_map (P:=E.P) (h:=h') (lo:=0) (z:=some (.slice none 0 0)) (k:=a[i].x0) (x:=rectR.sl (bl' a[i].x0) (begsX (a.take i) a[i].x0++[a[i]])) keyI m1 (Nat.zero_le _)
   have fz:=frz_cell (g:=g) a[i]
   have wi:IntKind.i64.wrap ((i:Int)+1)=((i+1:Nat):Int):=(wrap64 (by omega) (by omega)).trans (by omega)
   generalize hL:aset l a[i].x0 (rectR.sl (bl' a[i].x0) (begsX (a.take i) a[i].x0++[a[i]]))=l' at *
   have m2:(h'.set h.length (mapB encI l'))[h.length]?=some (mapB encI l'):=by rw [List.getElem?_set_self (get_lt m1)]
   have M2:MR rectR 39 (h.length+1) (h'.set h.length (mapB encI l')) l' bl' (fun x=>begsX (a.take (i+1)) x):=M1.keep fun o x ho hx=>by rw [List.getElem?_set_ne (by omega)];exact hx
   have k2:∀ o x,o<h.length→h[o]?=some x→(h'.set h.length (mapB encI l'))[o]?=some x:=fun o x ho hx=>by
    rw [List.getElem?_set_ne (by omega)]
    exact hk1 o x (by omega) (by rw [List.getElem?_append_left (by omega)];exact h4 o x ho hx)
   rw [rect_val] at e0 ap
   generalize (aget l a[i].x0).getD (.slice none 0 0)=u at *
   generalize rectR.sl (bl' a[i].x0) (begsX (a.take i) a[i].x0++[a[i]])=v at *
   unfold elR at ap
   unfold encI at lk pm
   have ih:=fun vs=>ih (i+1,l',bl',trim g.length vs (h'.set h.length (mapB encI l'))) (by show a.length-(i+1)<a.length-i;omega) ⟨hi,trim_get hgl m2,M2.trim m2 hgl,fun o x ho hx=>trim_get (by omega) (k2 o x ho hx)⟩
   simp -implicitDefEqProofs [k54_3] at ih
   simp -implicitDefEqProofs [r54_3,k54_3,hi,e0,prep_frz,prep_still,fz,rop_loadC,isCp_cptr,lk,lit_rect,ap,pm,wi]
   exact ih _
  ·refine ⟨(l,bl),g,?_,h2,by rw [List.take_of_length_le (by omega)] at h3;exact h3,h4⟩
   simp -implicitDefEqProofs [r54_3,k54_3,hi,trim_le])
 refine ⟨u.1,u.2,g,?_,hg⟩
 simp -implicitDefEqProofs [k54_3]
open Rg (Rect Pt sortU endsX begsX botR topR bdH bdL ysB upL xsB inY)
theorem frzAll3 {P:Program} {lo:Nat} {a b c a' b' c':Value} {h h1 h2 h3:Heap} (f1:freezeV P depth lo h a=some (a',h1)) (f2:freezeV P depth lo h1 b=some (b',h2)) (f3:freezeV P depth lo h2 c=some (c',h3)):frzAll P lo [a,b,c] h=some ([a',b',c'],h3):=by
 unfold frzAll
 simp [List.foldlM,f1,f2,f3]
theorem row_frz {P:Program} {α κ:Type} [DecidableEq κ] {R:Rec α} {t:TypeId} {lo:Nat} {h:Heap} {l:List (κ × Value)} {b:Nat} {L:List α} {k:κ} (hs:szOf P t=some (R.m+1)) (ha:aggT P t=some true) (hlo:lo≤b)
  (q:(aget l k=none∧L=[])∨(aget l k=some (R.sl b L)∧h[b]?=some (R.row t L))) :
  ∃ kk h',freezeV P depth lo h ((aget l k).getD (.slice none 0 0))=some (R.o kk L,h')∧Rec.Ok kk L∧h'.length=h.length∧(∀ o x,(aget l k≠none→o≠b)→h[o]?=some x→h'[o]?=some x):=by
 rcases q with ⟨q1,rfl⟩ | ⟨q1,q2⟩
 ·refine ⟨none,h,?_,fun _=>rfl,rfl,fun _ _ _ hx=>hx⟩
  rw [q1]
  exact frz_set8 rfl rfl
 ·rw [q1]
  refine ⟨some false,_,Rec.freeze_row q2 hs ha hlo,Rec.ok_some,?_,fun o x ho hx=>?_⟩
  ·split
   ·rfl
   ·simp
  ·split
   ·exact hx
   ·rw [List.getElem?_set_ne (Ne.symm (ho (by simp)))];exact hx
theorem lit_side2 (h:Heap) (a b c d a' b' c' d':Int):buildSliceT (some ⟨48,4,32,.agg ⟨[.int .i64 0,.int .i64 0,.int .i64 0,.int .i64 0]⟩,⟨some true,some 4⟩⟩) false h 2 #[(0,.agg ⟨[.int .i64 a,.int .i64 b,.int .i64 c,.int .i64 d]⟩),(1,.agg ⟨[.int .i64 a',.int .i64 b',.int .i64 c',.int .i64 d']⟩)]=some (lst true [.agg ⟨[.int .i64 a,.int .i64 b,.int .i64 c,.int .i64 d]⟩,.agg ⟨[.int .i64 a',.int .i64 b',.int .i64 c',.int .i64 d']⟩],h) :=
 (build_lit' (n:=2) (l:=[(0,.agg ⟨[.int .i64 a,.int .i64 b,.int .i64 c,.int .i64 d]⟩),(1,.agg ⟨[.int .i64 a',.int .i64 b',.int .i64 c',.int .i64 d']⟩)]) rfl rfl (by decide) (by decide) (by decide)).trans rfl
def elSd:El:=⟨48,4,32,.agg ⟨[.int .i64 0,.int .i64 0,.int .i64 0,.int .i64 0]⟩,⟨some true,some 4⟩⟩
def cellR (r:Rect):AObj:=.cells 39 [.int .i64 r.x0,.int .i64 r.y0,.int .i64 r.x1,.int .i64 r.y1] 0
theorem cellR_load {h:Heap} {b:Nat} {r:Rect} (hb:h[b]?=some (cellR r)):(∀ s,loadT ⟨some false,s⟩ h (.pointer (some ⟨b,0,none⟩))=some (.int .i64 r.x0))∧(∀ s,loadT ⟨some false,s⟩ h (.pointer (some ⟨b,1,none⟩))=some (.int .i64 r.y0))∧(∀ s,loadT ⟨some false,s⟩ h (.pointer (some ⟨b,2,none⟩))=some (.int .i64 r.x1))∧(∀ s,loadT ⟨some false,s⟩ h (.pointer (some ⟨b,3,none⟩))=some (.int .i64 r.y1)) :=
 ⟨fun _=>obj_load (j:=0) hb rfl,fun _=>obj_load (j:=1) hb rfl,fun _=>obj_load (j:=2) hb rfl,fun _=>obj_load (j:=3) hb rfl⟩
theorem bdH_snoc {a:List Rect} {i:Nat} (hi:i<a.length):bdH (a.take (i+1))=bdH (a.take i)++[botR a[i],topR a[i]]:=by
 have e:a.take (i+1)=a.take i++[a[i]]:=by rw [List.take_add_one,List.getElem?_eq_getElem hi];rfl
 unfold bdH
 rw [e,List.flatMap_append];simp
theorem xsL_snoc {a:List Rect} {i:Nat} (hi:i<a.length):xsL (a.take (i+1))=xsL (a.take i)++[a[i].x0,a[i].x1]:=by
 have e:a.take (i+1)=a.take i++[a[i]]:=by rw [List.take_add_one,List.getElem?_eq_getElem hi];rfl
 unfold xsL
 rw [e,List.flatMap_append];simp
theorem bdH_len (a:List Rect):(bdH a).length=2 * a.length:=by
 induction a with
 | nil=>rfl
 | cons r l ih =>
  have e2:(r :: l).length=l.length+1:=rfl
  have e3:bdH (r :: l)=[botR r,topR r]++bdH l:=rfl
  have e4:[botR r,topR r].length=2:=rfl
  rw [e3,List.length_append,ih,e2,e4];omega
theorem upL_len (x:Int) (A B:List Rect):∀ ys:List Int,(upL x A B ys).length≤ys.length
 | []=>Nat.le_refl _
 | [_]=>Nat.zero_le _
 | u :: v :: ys=>by
  have ih:=upL_len x A B (v :: ys)
  have e:upL x A B (u :: v :: ys)=(if (inY A u && !inY B u)=true then [((x,u),(x,v))] else if (inY B u && !inY A u)=true then [((x,v),(x,u))] else [])++upL x A B (v :: ys):=rfl
  rw [e,List.length_append,show (u :: v :: ys).length=(v :: ys).length+1 from rfl]
  split
  ·show 1+_≤_;omega
  ·split
   ·show 1+_≤_;omega
   ·show 0+_≤_;omega
def BdA (a:List Rect) (n:Nat) (l:List (Int × Value)) (bl:Int→Nat) (g:Heap):Prop :=
 g[0]?=some (mapB encI l)∧g[1]?=some (sideR.row 48 (bdH (a.take n)))∧g[2]?=some (intR.row 3 (xsL (a.take n)))∧MR rectR 39 3 g l bl (fun x=>endsX (a.take n) x)
theorem flatMap_le {β:Type} {f:Int→List β} {n:Nat} (h:∀ x,(f x).length≤n):∀ l:List Int,(l.flatMap f).length≤l.length * n
 | []=>by simp
 | x :: l=>by
  have:=flatMap_le h l
  have h1:=h x
  rw [List.flatMap_cons,List.length_append,List.length_cons,Nat.succ_mul]
  omega
theorem colX_len (a:List Rect) (x:Int) (ha:a.length≤200):(Rg.colX a x).length≤800:=by
 have h1:=upL_len x (endsX a x) (begsX a x) (ysB (endsX a x) (begsX a x))
 have h2:=Rg.sortU_le (yL (endsX a x++begsX a x))
 have h3:=yL_len (endsX a x++begsX a x)
 have h4:(endsX a x).length≤a.length:=List.length_filter_le _ _
 have h5:(begsX a x).length≤a.length:=List.length_filter_le _ _
 rw [List.length_append] at h3
 have h6:(ysB (endsX a x) (begsX a x)).length≤(yL (endsX a x++begsX a x)).length:=h2
 show (upL x _ _ _).length≤800
 omega
def Q7 (f:Int→List Rect) (l:List (Int × Value)) (bl:Int→Nat) (g:Heap) (x:Int):Prop :=
 (aget l x=none∧f x=[])∨(aget l x=some (rectR.sl (bl x) (f x))∧g[bl x]?=some (rectR.row 39 (f x)))
theorem MR.q7 {lo:Nat} {g:Heap} {l:List (Int × Value)} {bl:Int→Nat} {f:Int→List Rect} (M:MR rectR 39 lo g l bl f) (x:Int):Q7 f l bl g x:=by
 cases q:aget l x with
 | none=>exact .inl ⟨q,M.non x q⟩
 | some v =>
  obtain ⟨m1,m2,_⟩:=M.val x v q
  exact .inr ⟨by rw [q,m1],m2⟩
theorem Q7.keep {g g':Heap} {l:List (Int × Value)} {bl:Int→Nat} {f:Int→List Rect} {x:Int} (h:Q7 f l bl g x) (hk:aget l x≠none→∀ y,g[bl x]?=some y→g'[bl x]?=some y):Q7 f l bl g' x:=by
 rcases h with h | ⟨h1,h2⟩
 ·exact .inl h
 ·exact .inr ⟨h1,hk (by rw [h1];simp) _ h2⟩
theorem boundary_one (k:Option Bool) (a:List Rect) (hk:Rec.Ok k a) (ha:a.length≤200):pureCall E.P (L E) 34 [rectR.o k a]=some (lst false (sideR.vals (bdL a))):=by
 have bA:∀ d n,below (d+1) n (rectR.o k a)=true:=fun d n=>Rec.o_bel
 have lA:∀ h,lenT .sl h (rectR.o k a)=some (.int .i64 a.length):=fun h=>Rec.o_len hk
 have ix:∀ (i:Nat) (hi:i<a.length),indexAddrT (.sl 39 ⟨some true,some 4⟩) (rectR.o k a) (.int .i64 (i:Int))=some (cptr (rectR.val a[i])):=fun i hi=>Rec.o_index (R:=rectR) rfl hk hi
 have cs:=fun h=>columns_spec k a hk (by omega) h
 rw [pureCall_fn F34 rfl]
 generalize hVA:rectR.o k a=VA at *
 have fm:flat (.map none)=true:=rfl
 have sS:szOf E.P 48=some 4:=zS
 simp -implicitDefEqProofs [r34,p34,lA,fm,prep_new,newK_nil zS,newK_nil s3]
 generalize hX:LL _ _ _ _=X
 obtain ⟨u,g,rfl,g0,g1,g2,gM⟩:=LL_uxk hX (α:=Nat × List (Int × Value) × (Int→Nat) × Heap) (U:=List (Int × Value) × (Int→Nat)) (0,[],fun _=>0,[mapB encI [],sideR.row 48 [],intR.row 3 []]) (fun c=>[(3,sideR.sl 1 (bdH (a.take c.1))),(4,intR.sl 2 (xsL (a.take c.1))),(14,.int .i64 (c.1:Int))]) (fun c=>c.2.2.2) (.exit 0) (fun _=>[(3,sideR.sl 1 (bdH a)),(4,intR.sl 2 (xsL a)),(14,undef)])
   (fun u g=>BdA a a.length u.1 u.2 g)
   (fun c=>c.1≤a.length∧BdA a c.1 c.2.1 c.2.2.1 c.2.2.2) (fun c=>a.length-c.1)
  ⟨Nat.zero_le _,rfl,rfl,rfl,MR.init⟩
  (by simp -implicitDefEqProofs [k34_5,bdH,xsL,Rec.sl_nil]) rfl (by
  intro nx c hc ih
  obtain ⟨i,l,bl,g⟩:=c
  obtain ⟨h1,h2,h3,h4,h5⟩:=hc
  simp only at h1 h2 h3 h4 h5
  have hgl:=get_lt h4
  have hgn:g.length≠0:=by omega
  by_cases hi:i<a.length
  ·have e0:=ix i hi
   have hce:∀ r:Rect,AObj.cells 39 [.int .i64 r.x0,.int .i64 r.y0,.int .i64 r.x1,.int .i64 r.y1] 0=cellR r:=fun _=>rfl
   have e2:bdH (a.take i)++[botR a[i],topR a[i]]=bdH (a.take (i+1)):=(bdH_snoc hi).symm
   have e3:xsL (a.take i)++[a[i].x0,a[i].x1]=xsL (a.take (i+1)):=(xsL_snoc hi).symm
   have lb:(bdH (a.take i)).length≤2 * i:=by rw [bdH_len,List.length_take];omega
   have lx:(xsL (a.take i)).length≤2 * i:=by rw [xsL_len,List.length_take];omega
   -- the heaps of the round
   have q1:(g++[cellR a[i]])[1]?=some (sideR.row 48 (bdH (a.take i))):=by rw [List.getElem?_append_left (by omega)];exact h3
   have q1c:(g++[cellR a[i]])[g.length]?=some (cellR a[i]):=end0
   have a1:=Rec.app (R:=sideR) (el:=elSd) (h:=g++[cellR a[i]]) (lo:=0) (m:=[botR a[i],topR a[i]]) (u:=lst true (sideR.vals [botR a[i],topR a[i]])) rfl q1 (Rec.cells_tree (R:=sideR) rfl _) (Nat.zero_le _) (by show (_+2) * 32≤2 ^ 47;omega)
   rw [e2] at a1
   generalize hG1:(g++[cellR a[i]]).set 1 (sideR.row 48 (bdH (a.take (i+1))))=G1 at *
   have q2:G1[2]?=some (intR.row 3 (xsL (a.take i))):=by rw [← hG1,List.getElem?_set_ne (by decide),List.getElem?_append_left (by omega)];exact h4
   have q2c:G1[g.length]?=some (cellR a[i]):=by rw [← hG1,List.getElem?_set_ne (by omega)];exact q1c
   obtain ⟨d0,d1,d2,d3⟩:=cellR_load q2c
   have a2:=app_two' (h:=G1) (b:=2) (lo:=0) (c:=xsL (a.take i)) a[i].x0 a[i].x1 q2 (Nat.zero_le _) (by omega)
   rw [e3] at a2
   generalize hG2:G1.set 2 (intR.row 3 (xsL (a.take (i+1))))=G2 at *
   have q3c:G2[g.length]?=some (cellR a[i]):=by rw [← hG2,List.getElem?_set_ne (by omega)];exact q2c
   have fz:freezeV E.P depth 0 G2 (.pointer (some ⟨g.length,0,none⟩))=some (cptr (.agg ⟨[.int .i64 a[i].x0,.int .i64 a[i].y0,.int .i64 a[i].x1,.int .i64 a[i].y1]⟩),G2.set g.length .dead):=obj_frz (P:=E.P) q3c s32 a32 (Nat.zero_le _) rfl
   generalize hG3:G2.set g.length .dead=G3 at *
   have old:∀ o x,o<g.length→o≠1→o≠2→g[o]?=some x→G3[o]?=some x:=fun o x ho n1 n2 hx=>by
    rw [← hG3,List.getElem?_set_ne (by omega),← hG2,List.getElem?_set_ne (by omega),← hG1,List.getElem?_set_ne (by omega),List.getElem?_append_left ho];exact hx
   have m0:=old 0 _ (by omega) (by decide) (by decide) h2
   have w1:G3[1]?=some (sideR.row 48 (bdH (a.take (i+1)))):=by
    rw [← hG3,List.getElem?_set_ne (by omega),← hG2,List.getElem?_set_ne (by decide),← hG1,List.getElem?_set_self (by simp;omega)]
   have w2:G3[2]?=some (intR.row 3 (xsL (a.take (i+1)))):=by
    rw [← hG3,List.getElem?_set_ne (by omega),← hG2,List.getElem?_set_self (get_lt q2)]
   have hG3l:3≤G3.length:=by have:=get_lt w2;omega
   have M0:MR rectR 39 3 G3 l bl (fun x=>endsX (a.take i) x):=h5.keep fun o x ho hx=>old o x (get_lt hx) (by omega) (by omega) hx
   have hbl:(endsX (a.take i) a[i].x1).length≤i:=by
    have h1:(endsX (a.take i) a[i].x1).length≤(a.take i).length:=List.length_filter_le _ _
    rw [List.length_take] at h1;omega
   obtain ⟨h',bl',ap,M1,hl1,hk1⟩:=M0.add (el:=elR) (l0:=0) (Nat.zero_le _) hG3l a[i].x1 a[i] (u:=lst true [rectR.val a[i]]) rfl (fun h=>Rec.cells_tree (R:=rectR) rfl [a[i]]) (by show (_+1) * 32≤2 ^ 47;omega)
   have m1:=hk1 _ _ (by omega) m0
   have M1:=M1.congr (ends_snoc hi)
   have lk:=lookup_get (P:=E.P) (h:=G3) (zv:=.slice none 0 0) (k:=a[i].x1) keyI m0
   have pm:=put_map (P:=E.P) (h:=h') (lo:=0) (z:=some (.slice none 0 0)) (k:=a[i].x1) (x:=rectR.sl (bl' a[i].x1) (endsX (a.take i) a[i].x1++[a[i]])) keyI m1 (Nat.zero_le _)
   have wi:IntKind.i64.wrap ((i:Int)+1)=((i+1:Nat):Int):=(wrap64 (by omega) (by omega)).trans (by omega)
   generalize hL:aset l a[i].x1 (rectR.sl (bl' a[i].x1) (endsX (a.take i) a[i].x1++[a[i]]))=l' at *
   have m2:(h'.set 0 (mapB encI l'))[0]?=some (mapB encI l'):=by rw [List.getElem?_set_self (get_lt m1)]
   have M2:MR rectR 39 3 (h'.set 0 (mapB encI l')) l' bl' (fun x=>endsX (a.take (i+1)) x):=M1.keep fun o x ho hx=>by rw [List.getElem?_set_ne (by omega)];exact hx
   have v1:(h'.set 0 (mapB encI l'))[1]?=some (sideR.row 48 (bdH (a.take (i+1)))):=by rw [List.getElem?_set_ne (by decide)];exact hk1 _ _ (by decide) w1
   have v2:(h'.set 0 (mapB encI l'))[2]?=some (intR.row 3 (xsL (a.take (i+1)))):=by rw [List.getElem?_set_ne (by decide)];exact hk1 _ _ (by decide) w2
   rw [rect_val] at e0 ap
   generalize (aget l a[i].x1).getD (.slice none 0 0)=u at *
   generalize rectR.sl (bl' a[i].x1) (endsX (a.take i) a[i].x1++[a[i]])=v at *
   unfold elR at ap
   unfold elSd at a1
   unfold encI at lk pm
   have hvv:lst true (sideR.vals [botR a[i],topR a[i]])=lst true [.agg ⟨[.int .i64 a[i].x0,.int .i64 a[i].y0,.int .i64 a[i].x1,.int .i64 a[i].y0]⟩,.agg ⟨[.int .i64 a[i].x1,.int .i64 a[i].y1,.int .i64 a[i].x0,.int .i64 a[i].y1]⟩]:=rfl
   rw [hvv] at a1
   have ih:=fun vs=>ih (i+1,l',bl',trim g.length vs (h'.set 0 (mapB encI l'))) (by show a.length-(i+1)<a.length-i;omega) ⟨hi,trim_get (by omega) m2,trim_get (by omega) v1,trim_get (by omega) v2,M2.trim m2 (by omega)⟩
   obtain ⟨c0,c1,c2,c3⟩:=cellR_load q1c
   simp -implicitDefEqProofs [k34_5] at ih
   simp -implicitDefEqProofs [r34_5,k34_5,hi,e0,hce,c0,c1,c2,c3,bPt,bSd,lit_side2,a1,d0,d1,d2,d3,lit_two,a2,prep_frz,prep_still,fz,rop_loadC,isCp_cptr,lk,lit_rect,ap,pm,wi]
   exact ih _
  ·have e:a.take i=a:=List.take_of_length_le (by omega)
   refine ⟨(l,bl),g,?_,h2,by rw [e] at h3;rw [List.take_length];exact h3,by rw [e] at h4;rw [List.take_length];exact h4,by rw [e] at h5;rw [List.take_length];exact h5⟩
   simp -implicitDefEqProofs [r34_5,k34_5,hi,e,trim_le])
 rw [List.take_length] at g1 g2 gM
 have sB:szOf E.P 39=some (rectR.m+1):=s32
 obtain ⟨l1,b1⟩:=u
 simp only at g0 gM
 have lx:=xsL_len a
 have lb:=bdH_len a
 have so:=sortInts (h:=g) (b:=2) (lo:=0) (d:=xsL a) g2 (Nat.zero_le _) (by omega)
 generalize hS:g.set 2 (intR.row 3 (sortI (xsL a)))=S at *
 have s2:S[2]?=some (intR.row 3 (sortI (xsL a))):=by rw [← hS,List.getElem?_set_self (get_lt g2)]
 have s0:S[0]?=some (mapB encI l1):=by rw [← hS,List.getElem?_set_ne (by decide)];exact g0
 have s1:S[1]?=some (sideR.row 48 (bdH a)):=by rw [← hS,List.getElem?_set_ne (by decide)];exact g1
 have sM:MR rectR 39 3 S l1 b1 (fun x=>endsX a x):=gM.keep fun o x ho hx=>by rw [← hS,List.getElem?_set_ne (by omega)];exact hx
 obtain ⟨l2,b2,T,cs,tm,tM,told⟩:=cs S
 generalize hm:S.length=m at *
 have hm3:3≤m:=by have:=get_lt s2;omega
 have r1:∀ x,aget l1 x≠none→3≤b1 x∧b1 x<m:=fun x q=>by
  cases c:aget l1 x with
  | none=>exact absurd c q
  | some v =>
   have:=sM.val x v c
   have:=get_lt this.2.1
   omega
 have r2:∀ x,aget l2 x≠none→m+1≤b2 x:=fun x q=>by
  cases c:aget l2 x with
  | none=>exact absurd c q
  | some v=>exact (tM.val x v c).2.2
 obtain ⟨r,co,hr⟩:=compInts (h:=T) (b:=2) (lo:=0) (d:=sortI (xsL a)) (told _ _ (by omega) s2) (Nat.zero_le _) (by rw [sortI_len];omega)
 rw [Rg.comp_sort] at co hr
 have e1:intR.sl 2 (sortI (xsL a))=intR.sl 2 (xsL a):=int_sl (sortI_len _)
 rw [e1,sortI_len] at co
 rw [sortI_len] at hr
 have ebd:bdL a=bdH a++(sortU (xsL a)).flatMap (Rg.colX a):=rfl
 have hnd:∀ (i j:Nat) (hi:i<(sortU (xsL a)).length) (hj:j<(sortU (xsL a)).length),i<j→(sortU (xsL a))[i]≠(sortU (xsL a))[j]:=fun i j hi hj hij=>by
  have:=List.pairwise_iff_getElem.1 (Rg.sortU_asc (xsL a)) i j hi hj hij
  omega
 rw [ebd]
 generalize sortU (xsL a)=ys at *
 generalize hn:(xsL a).length=n at *
 have hyn:ys.length≤400:=by rw [List.length_append] at hr;omega
 have px:∀ (i:Nat) (hi:i<ys.length),indexAddrT (.sl 3 ⟨some false,some 1⟩) (preS 2 n ys) (.int .i64 (i:Int))=some (.pointer (some ⟨2,i,some n⟩)):=fun i hi=>pre_index hi
 simp -implicitDefEqProofs [k34_5,ret2 (E:=E) (f:=18) rfl,ret2 (E:=E) (f:=19) rfl,ret2 (E:=E) (f:=54) rfl,so,cs,co,pre_len]
 generalize hX:LL _ _ _ _=X
 obtain ⟨u,g,rfl,gF⟩:=LL_uxk hX (α:=Nat × Heap) (U:=Unit) (0,T.set 2 (intR.row 3 (ys++r))) (fun c=>[(3,sideR.sl 1 (bdH a++(ys.take c.1).flatMap (Rg.colX a))),(68,.int .i64 (c.1:Int))]) (fun c=>c.2) (.exit 2) (fun _=>[(3,sideR.sl 1 (bdH a++ys.flatMap (Rg.colX a))),(68,undef)])
   (fun _ g=>g[1]?=some (sideR.row 48 (bdH a++ys.flatMap (Rg.colX a))))
   (fun c=>c.1≤ys.length∧c.2[0]?=some (mapB encI l1)∧c.2[m]?=some (mapB encI l2)∧c.2[1]?=some (sideR.row 48 (bdH a++(ys.take c.1).flatMap (Rg.colX a)))∧c.2[2]?=some (intR.row 3 (ys++r)) ∧
    ∀ (j:Nat) (hj:j<ys.length),c.1≤j→Q7 (fun x=>endsX a x) l1 b1 c.2 ys[j]∧Q7 (fun x=>begsX a x) l2 b2 c.2 ys[j]) (fun c=>ys.length-c.1)
  ⟨Nat.zero_le _,by rw [List.getElem?_set_ne (by decide)];exact told _ _ (by omega) s0,by rw [List.getElem?_set_ne (by omega)];exact tm,by rw [List.getElem?_set_ne (by decide)];simpa using told _ _ (by omega) s1,
   by rw [List.getElem?_set_self (get_lt (told _ _ (by omega) s2))],fun j hj _=>⟨(sM.q7 ys[j]).keep fun q y hy=>by
    have:=r1 _ q
    rw [List.getElem?_set_ne (by omega)];exact told _ _ (by omega) hy,(tM.q7 ys[j]).keep fun q y hy=>by
    have:=r2 _ q
    rw [List.getElem?_set_ne (by omega)];exact hy⟩⟩
  (by simp -implicitDefEqProofs [k34_14]) rfl (by
  intro nx c hc ih
  obtain ⟨i,g⟩:=c
  obtain ⟨h1,h2,h3,h4,h5,h6⟩:=hc
  simp only at h1 h2 h3 h4 h5 h6
  by_cases hi:i<ys.length
  ·obtain ⟨q1,q2⟩:=h6 i hi (Nat.le_refl _)
   have et:ys.take (i+1)=ys.take i++[ys[i]]:=by rw [List.take_add_one,List.getElem?_eq_getElem hi];rfl
   have ho:=flatMap_le (fun x=>colX_len a x ha) (ys.take i)
   have htl:(ys.take i).length≤400:=by rw [List.length_take];omega
   have hcx:=colX_len a ys[i] ha
   have eo:bdH a++(ys.take i).flatMap (Rg.colX a)++Rg.colX a ys[i]=bdH a++(ys.take (i+1)).flatMap (Rg.colX a):=by rw [et,List.flatMap_append,List.append_assoc];simp
   have f0:freezeV E.P depth 0 g (.int .i64 ys[i])=some (.int .i64 ys[i],g):=frz_set8 rfl rfl
   have lk1:=lookup_get (P:=E.P) (h:=g) (zv:=.slice none 0 0) (k:=ys[i]) keyI h2
   have lk2:=lookup_get (P:=E.P) (h:=g) (zv:=.slice none 0 0) (k:=ys[i]) keyI h3
   obtain ⟨k1,g1,f1,hk1,hl1,ho1⟩:=row_frz (P:=E.P) (R:=rectR) (lo:=0) (t:=39) (h:=g) (l:=l1) (b:=b1 ys[i]) (L:=endsX a ys[i]) (k:=ys[i]) sB a32 (Nat.zero_le _) q1
   have q2':Q7 (fun x=>begsX a x) l2 b2 g1 ys[i]:=q2.keep fun q y hy=>ho1 _ _ (fun q'=>by have:=r2 _ q;have:=r1 _ q';omega) hy
   obtain ⟨k2,g2,f2,hk2,hl2,ho2⟩:=row_frz (P:=E.P) (R:=rectR) (lo:=0) (t:=39) (h:=g1) (l:=l2) (b:=b2 ys[i]) (L:=begsX a ys[i]) (k:=ys[i]) sB a32 (Nat.zero_le _) q2'
   have fa:=frzAll3 f0 f1 f2
   have h7:(endsX a ys[i]).length≤a.length:=List.length_filter_le _ _
   have h8:(begsX a ys[i]).length≤a.length:=List.length_filter_le _ _
   have us:=upright_spec ys[i] k1 k2 (endsX a ys[i]) (begsX a ys[i]) hk1 hk2 (by omega)
   have us:pureCall E.P (L E) 55 [.int .i64 ys[i],rectR.o k1 (endsX a ys[i]),rectR.o k2 (begsX a ys[i])]=some (lst false (sideR.vals (Rg.colX a ys[i]))):=us
   have old:∀ o x,(aget l1 ys[i]≠none→o≠b1 ys[i])→(aget l2 ys[i]≠none→o≠b2 ys[i])→g[o]?=some x→g2[o]?=some x:=fun o x n1 n2 hx=>ho2 o x n2 (ho1 o x n1 hx)
   have w1:=old 1 _ (fun q=>by have:=r1 _ q;omega) (fun q=>by have:=r2 _ q;omega) h4
   have ap:=Rec.app (R:=sideR) (el:=elSd) (h:=g2) (lo:=0) (m:=Rg.colX a ys[i]) (u:=lst false (sideR.vals (Rg.colX a ys[i]))) rfl w1 (Rec.cells_tree (R:=sideR) rfl _) (Nat.zero_le _) (by show (_+_) * 32≤2 ^ 47;rw [List.length_append];omega)
   rw [eo] at ap
   generalize hG:g2.set 1 (sideR.row 48 (bdH a++(ys.take (i+1)).flatMap (Rg.colX a)))=G at *
   have hGl:G.length=g.length:=by rw [← hG,List.length_set];omega
   have oldG:∀ o x,o≠1→(aget l1 ys[i]≠none→o≠b1 ys[i])→(aget l2 ys[i]≠none→o≠b2 ys[i])→g[o]?=some x→G[o]?=some x:=fun o x n0 n1 n2 hx=>by
    rw [← hG,List.getElem?_set_ne (by omega)];exact old o x n1 n2 hx
   have ih:=ih (i+1,G) (by show ys.length-(i+1)<ys.length-i;omega) ⟨hi,oldG 0 _ (by decide) (fun q=>by have:=r1 _ q;omega) (fun q=>by have:=r2 _ q;omega) h2,
    oldG m _ (by omega) (fun q=>by have:=r1 _ q;omega) (fun q=>by have:=r2 _ q;omega) h3,by rw [← hG];exact List.getElem?_set_self (get_lt w1),
    oldG 2 _ (by decide) (fun q=>by have:=r1 _ q;omega) (fun q=>by have:=r2 _ q;omega) h5,fun j hj hij=>by
     obtain ⟨p1,p2⟩:=h6 j hj (by omega)
     have hne:=hnd i j hi hj hij
     refine ⟨p1.keep fun q y hy=>oldG _ _ (by have:=r1 _ q;omega) (fun q' e=>hne (sM.inj _ _ q' q e.symm)) (fun q'=>by have:=r1 _ q;have:=r2 _ q';omega) hy,
      p2.keep fun q y hy=>oldG _ _ (by have:=r2 _ q;omega) (fun q'=>by have:=r2 _ q;have:=r1 _ q';omega) (fun q' e=>hne (tM.inj _ _ q' q e.symm)) hy⟩⟩
   have wi:IntKind.i64.wrap ((i:Int)+1)=((i+1:Nat):Int):=(wrap64 (by omega) (by omega)).trans (by omega)
   have pxi:=px i hi
   have pl:=pre_load (h:=g) (b:=2) (n:=n) (sz:=some 1) (e:=ys) h5 hr hi
   generalize (aget l1 ys[i]).getD (.slice none 0 0)=u1 at *
   generalize (aget l2 ys[i]).getD (.slice none 0 0)=u2 at *
   unfold elSd at ap
   unfold encI at lk1 lk2
   simp -implicitDefEqProofs [k34_14] at ih
   simp -implicitDefEqProofs [r34_14,k34_14,hi,pre_len,pxi,pl,lk1,lk2,ret4 m55,fa,us,ap,wi,trim_le,hGl]
   exact ih
  ·have e:ys.take i=ys:=List.take_of_length_le (by omega)
   refine ⟨(),g,?_,by rw [e] at h4;exact h4⟩
   simp -implicitDefEqProofs [r34_14,k34_14,hi,e,pre_len,trim_le])
 have rr:=Rec.reify_row (R:=sideR) (P:=E.P) (h:=g) (b:=1) (n:=7) (t:=48) (l:=bdH a++ys.flatMap (Rg.colX a)) gF zS (by kernel_rfl)
 have rr:reifyR E.P g (sideR.sl 1 (bdH a++ys.flatMap (Rg.colX a)))=_:=rr
 simp -implicitDefEqProofs [k34_14,rr]
open Rg (Rect Pt sgnI turnI minP ltPo)
theorem sign_spec (n:Int):pureCall E.P (L E) 56 [.int .i64 n]=some (.int .i64 (sgnI n)):=by
 rw [pureCall_fn F56 rfl]
 unfold sgnI
 simp -implicitDefEqProofs [r56,p56,min_int,max_int]
def nearS (s:Pt × Pt):Prop:=0≤s.1.1∧s.1.1≤1048576∧0≤s.1.2∧s.1.2≤1048576∧0≤s.2.1∧s.2.1≤1048576∧0≤s.2.2∧s.2.2≤1048576
theorem sgn_le (n:Int):-1≤sgnI n∧sgnI n≤1:=by unfold sgnI;omega
theorem sgn_cases (n:Int):sgnI n = -1∨sgnI n=0∨sgnI n=1:=by have:=sgn_le n;omega
theorem sgn_mul (a b:Int):IntKind.i64.wrap (sgnI a * sgnI b)=sgnI a * sgnI b∧-1≤sgnI a * sgnI b∧sgnI a * sgnI b≤1:=by
 rcases sgn_cases a with h | h | h <;> rcases sgn_cases b with g | g | g <;> rw [h,g] <;> decide
theorem turn_spec (s t:Pt × Pt) (hs:nearS s) (ht:nearS t):pureCall E.P (L E) 35 [.agg ⟨[.int .i64 s.1.1,.int .i64 s.1.2,.int .i64 s.2.1,.int .i64 s.2.2]⟩,.agg ⟨[.int .i64 t.1.1,.int .i64 t.1.2,.int .i64 t.2.1,.int .i64 t.2.2]⟩]=some (.int .i64 (turnI s t)):=by
 obtain ⟨a1,a2,a3,a4,a5,a6,a7,a8⟩:=hs
 obtain ⟨b1,b2,b3,b4,b5,b6,b7,b8⟩:=ht
 have w1:IntKind.i64.wrap (s.2.1-s.1.1)=s.2.1-s.1.1:=wrap64 (by omega) (by omega)
 have w2:IntKind.i64.wrap (s.2.2-s.1.2)=s.2.2-s.1.2:=wrap64 (by omega) (by omega)
 have w3:IntKind.i64.wrap (t.2.1-t.1.1)=t.2.1-t.1.1:=wrap64 (by omega) (by omega)
 have w4:IntKind.i64.wrap (t.2.2-t.1.2)=t.2.2-t.1.2:=wrap64 (by omega) (by omega)
 have m1:=sgn_mul (s.2.1-s.1.1) (t.2.2-t.1.2)
 have m2:=sgn_mul (s.2.2-s.1.2) (t.2.1-t.1.1)
 have w5:IntKind.i64.wrap (sgnI (s.2.1-s.1.1) * sgnI (t.2.2-t.1.2)-sgnI (s.2.2-s.1.2) * sgnI (t.2.1-t.1.1))=turnI s t:=wrap64 (by omega) (by omega)
 have g1:=sign_spec (s.2.1-s.1.1)
 have g2:=sign_spec (s.2.2-s.1.2)
 have g3:=sign_spec (t.2.1-t.1.1)
 have g4:=sign_spec (t.2.2-t.1.2)
 rw [pureCall_fn F35 rfl]
 simp -implicitDefEqProofs [r35,p35,ret0 m56,w1,w2,w3,w4,g1,g2,g3,g4,m1.1,m2.1,w5]
theorem cmpP_po (a b:Pt):cmpP a b<0↔ltPo a b=true:=cmpP_lt a b
theorem min_spec (x:Bool) (a:Pt) (l:List Pt) (hl:l.length≤1000000):pureCall E.P (L E) 37 [lst x (spanR.vals (a :: l)),.func (.func 25) ⟨[]⟩ ⟨[]⟩]=some (.agg ⟨[.int .i64 (minP a l).1,.int .i64 (minP a l).2]⟩):=by
 have ln:∀ h,lenT .sl h (lst x (spanR.vals (a :: l)))=some (.int .i64 ((l.length:Int)+1)):=fun h=>(Rec.tree_len (R:=spanR)).trans (by rw [List.length_cons];rfl)
 have ix0:indexAddrT (.sl 42 ⟨some true,some 2⟩) (lst x (spanR.vals (a :: l))) (.int .i64 0)=some (cptr (spanR.val a)):=Rec.index_tree (R:=spanR) (l:=a :: l) (i:=0) rfl (by simp)
 have ix:∀ (i:Nat) (hi:i<l.length),indexAddrT (.sl 42 ⟨some true,some 2⟩) (lst x (spanR.vals (a :: l))) (.int .i64 ((i+1:Nat):Int))=some (cptr (spanR.val l[i])):=fun i hi=>Rec.index_tree (R:=spanR) (l:=a :: l) (i:=i+1) rfl (by simp;omega)
 have bP:∀ d n,below (d+1) n (lst x (spanR.vals (a :: l)))=true:=fun d n=>rfl
 rw [pureCall_fn F37 rfl]
 generalize lst x (spanR.vals (a :: l))=V at *
 have n1:¬ ((l.length:Int)+1<1):=by omega
 rw [span_val] at ix0
 simp -implicitDefEqProofs [r37,p37,ln,n1,ix0]
 rw [LL_for (γ:=Pt) l a (fun i _=>[(6,.int .i64 ((i+1:Nat):Int))]) (fun _ m=>[.cells 42 [.int .i64 0,.int .i64 0] 0,.cells 42 [.int .i64 m.1,.int .i64 m.2] 0])
  (fun _ rest m=>(.exit 0,[(6,undef)],[.cells 42 [.int .i64 0,.int .i64 0] 0,.cells 42 [.int .i64 (minP m rest).1,.int .i64 (minP m rest).2] 0])) (fun _ _=>True) (by omega) trivial]
 ·simp -implicitDefEqProofs [k37_5]
 ·simp -implicitDefEqProofs [k37_5]
 ·rfl
 ·intro nx i m hi _
  have h1:¬ (((i+1:Nat):Int)<(l.length:Int)+1):=by omega
  have h2:minP m []=m:=rfl
  simp -implicitDefEqProofs [r37_5,k37_5,ln,h1,h2,trim_le,-Int.natCast_add]
 ·intro nx i v rest m hi hv hd hw _ ih
  have ixi:=ix i hi
  rw [hv,span_val] at ixi
  have h1:((i+1:Nat):Int)<(l.length:Int)+1:=by omega
  have wi:IntKind.i64.wrap (((i+1:Nat):Int)+1)=((i+1+1:Nat):Int):=(wrap64 (by omega) (by omega)).trans (by omega)
  have cs:=compare_spec v m
  have e:minP m (v :: rest)=minP (if ltPo v m=true then v else m) rest:=rfl
  have iv:=ih v trivial
  have im:=ih m trivial
  rw [e]
  simp -implicitDefEqProofs [k37_5,-Int.natCast_add] at iv im
  by_cases q:cmpP v m<0
  ·rw [if_pos ((cmpP_po v m).1 q)]
   simp -implicitDefEqProofs [r37_5,k37_5,ln,h1,ixi,ret0 m25,cs,q,wi,trim_le,-Int.natCast_add]
   exact iv
  ·rw [if_neg fun q'=>q ((cmpP_po v m).2 q')]
   simp -implicitDefEqProofs [r37_5,k37_5,ln,h1,ixi,ret0 m25,cs,q,wi,trim_le,-Int.natCast_add]
   exact im
theorem eql2 (a b c d:Int):aBin E.P .eql 42 (.agg ⟨[.int .i64 a,.int .i64 b]⟩) (.agg ⟨[.int .i64 c,.int .i64 d]⟩)=(allOf [some (a == c),some (b == d)]).map .bool:=by kernel_rfl
theorem eql_point (s t:Pt):aBin E.P .eql 42 (.agg ⟨[.int .i64 s.1,.int .i64 s.2]⟩) (.agg ⟨[.int .i64 t.1,.int .i64 t.2]⟩)=some (.bool (decide (t=s))):=by
 obtain ⟨a,b⟩:=s
 obtain ⟨c,d⟩:=t
 have e:∀ x y:Int,(x == y)=decide (y=x):=fun x y=>by
  by_cases h:y=x
  ·simp [h]
  ·have:¬ x=y:=fun e=>h e.symm
   simp [h,this]
 rw [eql2,e a c,e b d,allOf_two]
 simp
theorem indexP_spec (x:Bool) (p:List Pt) (m:Pt) (hp:p.length≤1000000) (hm:m∈p):pureCall E.P (L E) 36 [lst x (spanR.vals p),.agg ⟨[.int .i64 m.1,.int .i64 m.2]⟩]=some (.int .i64 (p.idxOf m:Int)):=by
 have ln:∀ h,lenT .sl h (lst x (spanR.vals p))=some (.int .i64 p.length):=fun h=>Rec.tree_len (R:=spanR)
 have ix:∀ (i:Nat) (hi:i<p.length),indexAddrT (.sl 42 ⟨some true,some 2⟩) (lst x (spanR.vals p)) (.int .i64 (i:Int))=some (cptr (spanR.val p[i])):=fun i hi=>Rec.index_tree (R:=spanR) rfl hi
 rw [pureCall_fn F36 rfl]
 generalize lst x (spanR.vals p)=V at *
 simp -implicitDefEqProofs [r36,p36,ln]
 rw [LL_for (γ:=Unit) p () (fun i _=>[(8,.int .i64 i)]) (fun _ _=>[.cells 42 [.int .i64 m.1,.int .i64 m.2] 0]) (fun i rest _=>if m∈rest then (.ret,[(4,.int .i64 ((i+rest.idxOf m:Nat):Int)),(8,undef)],[.cells 42 [.int .i64 m.1,.int .i64 m.2] 0]) else (.exit 0,[(8,undef)],[.cells 42 [.int .i64 m.1,.int .i64 m.2] 0])) (fun _ _=>True) (by omega) trivial]
 ·simp -implicitDefEqProofs [k36_2,hm]
 ·simp -implicitDefEqProofs [k36_2]
 ·rfl
 ·intro nx i c hi _
  simp -implicitDefEqProofs [r36_2,k36_2,ln,hi,trim_le]
 ·intro nx i v rest c hi hv hd hw _ ih
  have ih:=ih () trivial
  have ixi:=ix i hi
  rw [hv,span_val] at ixi
  have eq:=eql_point m v
  rw [List.idxOf_cons]
  simp -implicitDefEqProofs [k36_2,-Int.natCast_add] at ih
  by_cases q:v=m
  ·subst q
   simp -implicitDefEqProofs [r36_2,k36_2,ln,hi,ixi,eq,trim_le]
  ·have q':¬ m=v:=fun e=>q e.symm
   have e1:(v == m)=false:=by simpa using q
   have e2:i+(rest.idxOf m+1)=i+1+rest.idxOf m:=by omega
   simp -implicitDefEqProofs [r36_2,k36_2,ln,hi,ixi,eq,q,q',e1,e2,hw,trim_le,-Int.natCast_add]
   exact ih
theorem points_grow (n:Nat) (h:Heap) (lo:Nat) (hn:n≤1000000):L E 57 [.slice none 0 0,.int .i64 (n:Int)] h lo =
  some (if n=0 then (.slice none 0 0,h) else (.slice (some ⟨h.length,0,some (n * 2)⟩) 0 n,h++[spanR.row 42 (List.replicate n (0,0))])):=by
 have sn:sliceT (.sl 42 ⟨some true,some 2⟩) h (.slice none 0 0) none (some (.int .i64 0)) none=some (.slice none 0 0):=Rec.slice_none rfl
 have w1:IntKind.i64.wrap (n:Int)=n:=wrap64 (by omega) (by omega)
 have w0:IntKind.i64.wrap 0=0:=rfl
 rw [L_fn F57 rfl]
 simp -implicitDefEqProofs [r57,padS]
 by_cases h0:n=0
 ·subst h0
  simp -implicitDefEqProofs [cap_nil,w0]
 ·have h1:0<n:=by omega
  have h2:¬ ((n:Int)<0):=by omega
  have ap:=Rec.appN (R:=spanR) (el:=⟨42,2,16,.agg ⟨[.int .i64 0,.int .i64 0]⟩,⟨some true,some 2⟩⟩) (h:=h) (n:=n) (k:=.i64) (a:=(0,0)) rfl rfl h1 (by show n * 16≤2 ^ 47;omega)
  have sl:=Rec.slice_row0 (R:=spanR) (e:=42) (t:=42) (g:=some true) (h:=h++[spanR.row 42 (List.replicate n (0,0))]) (b:=h.length) (n:=n) (l:=List.replicate n (0,0)) (k:=.i64) rfl (by simp) (by simp)
  simp only [show spanR.m+1=2 from rfl] at ap sl
  simp -implicitDefEqProofs [h0,h1,h2,cap_nil,sn,w0,w1,ap,sl]
theorem points_concat (x:Bool) (P:List (Option Bool × List (Int × Int))) (hok:∀ p∈P,Rec.Ok p.1 p.2) (hP:P.length≤1000) (ht:tot P≤1000000) :
  pureCall E.P (L E) 38 [lst x (P.map fun p=>spanR.o p.1 p.2)]=some (spanR.o (if tot P=0 then none else some false) (allP P)):=by
 have okI:∀ (i:Nat) (hi:i<P.length),Rec.Ok (P[i]).1 (P[i]).2:=fun i hi=>hok _ (List.getElem_mem hi)
 have ix:∀ (i:Nat) (hi:i<P.length),indexAddrT (.sl 22 ⟨some false,some 1⟩) (lst x (P.map fun p=>spanR.o p.1 p.2)) (.int .i64 (i:Int))=some (cptr (spanR.o (P[i]).1 (P[i]).2)):=fun i hi=>by
  have e:(P.map fun p=>spanR.o p.1 p.2)[i]?=some (spanR.o (P[i]).1 (P[i]).2):=by simp [hi]
  rw [index_lst,if_pos (by omega),show ((i:Int)).toNat=i by omega,e,Option.bind_some,if_pos (by rw [Rec.o_fits,Rec.o_cells1];rfl)]
 have gr:=points_grow (tot P)
 rw [pureCall_fn F38 rfl]
 simp -implicitDefEqProofs [r38,padS]
 rw [LL_for (γ:=Nat) P 0 (fun i c=>[(3,.int .i64 (c:Int)),(11,.int .i64 i)]) (fun _ _=>[]) (fun i rest c=>(.exit 0,[(3,.int .i64 ((c+tot rest:Nat):Int)),(11,undef)],[])) (fun i c=>c+tot (P.drop i)≤1000000) (by omega) (by simpa using ht)]
 ·rw [Nat.zero_add]
  simp -implicitDefEqProofs [k38_3,ret2 m57,gr,ht]
  by_cases h0:tot P=0
  ·have hz:=tot_zero h0
   have ha:allP P=[]:=List.eq_nil_of_length_eq_zero (by rw [tot_all,h0])
   simp -implicitDefEqProofs [h0,ha]
   rw [LL_for (γ:=Unit) P () (fun i _=>[(27,.int .i64 i)]) (fun _ _=>[]) (fun _ _ _=>(.exit 2,[(27,undef)],[])) (fun _ _=>True) (by omega) trivial]
   ·simp -implicitDefEqProofs [k38_11,Rec.o]
   ·simp -implicitDefEqProofs [k38_11]
   ·rfl
   ·intro nx i c hi _
    simp -implicitDefEqProofs [r38_11,k38_11,hi,trim_le]
   ·intro nx i p rest c hi hv hd hw _ ih
    have ih:=ih () trivial
    have hp:=okI i hi
    have ixi:=ix i hi
    rw [hv] at hp ixi
    have hpe:=hz p (hv ▸ List.getElem_mem hi)
    have cl:sliceCells [] 2 (spanR.o p.1 p.2)=some ([],0):=(Rec.o_cells (R:=spanR) (s:=2) rfl hp).trans (by rw [hpe];rfl)
    simp -implicitDefEqProofs [k38_11] at ih
    simp -implicitDefEqProofs [r38_11,k38_11,hi,ixi,Rec.o_fits,append_nil,cl,hw,trim_le]
    exact ih
  ·have h1:0<tot P:=by omega
   simp -implicitDefEqProofs [h0]
   rw [LL_for (γ:=List (Int × Int)) P [] (fun i c=>[(6,.slice (some ⟨0,0,some (tot P * 2)⟩) c.length (tot P)),(27,.int .i64 i)]) (fun _ c=>[spanR.row 42 (c++List.replicate (tot P-c.length) (0,0))])
    (fun _ rest c=>(.exit 2,[(6,.slice (some ⟨0,0,some (tot P * 2)⟩) (c++allP rest).length (tot P)),(27,undef)],[spanR.row 42 ((c++allP rest)++List.replicate (tot P-(c++allP rest).length) (0,0))])) (fun i c=>c.length+tot (P.drop i)=tot P) (by omega) (by simp)]
   ·have e:[]++allP P=allP P:=rfl
    have e2:tot P-(allP P).length=0:=by rw [tot_all];omega
    have rr:=Rec.reify_row (R:=spanR) (P:=E.P) (h:=[spanR.row 42 (allP P)]) (b:=0) (n:=7) (t:=42) (l:=allP P) rfl (by kernel_rfl) (by kernel_rfl)
    rw [e,e2,List.replicate_zero,List.append_nil]
    unfold Rec.sl at rr
    rw [tot_all] at rr ⊢
    simp only [show spanR.m+1=2 from rfl] at rr
    simp -implicitDefEqProofs [k38_11,-reify_slice,rr,Rec.o]
   ·simp -implicitDefEqProofs [k38_11]
   ·simp
   ·intro nx i c hi _
    simp -implicitDefEqProofs [r38_11,k38_11,hi,trim_le,allP]
   ·intro nx i p rest c hi hv hd hw hc ih
    have hr:P.drop (i+1)=rest:=by rw [← List.drop_drop,hd];rfl
    rw [hd] at hc
    have hc':c.length+(p.2.length+tot rest)=tot P:=hc
    have ih:=ih (c++p.2) (by rw [hr,List.length_append];omega)
    have hp:=okI i hi
    have ixi:=ix i hi
    rw [hv] at hp ixi
    have e:c++allP (p :: rest)=c++p.2++allP rest:=by
     show c++(p.2++allP rest)=_
     rw [List.append_assoc]
    have ap:=Rec.app_fill (R:=spanR) (el:=⟨42,2,16,.agg ⟨[.int .i64 0,.int .i64 0]⟩,⟨some true,some 2⟩⟩) (h:=[spanR.row 42 (c++List.replicate (tot P-c.length) (0,0))]) (lo:=0) (b:=0) (n:=tot P) (r:=tot P-c.length) (t:=42) (acc:=c) (m:=p.2) (z:=(0,0)) (u:=spanR.o p.1 p.2)
     rfl rfl (by omega) (Rec.o_cells rfl hp) (Nat.le_refl _) (by omega)
    simp only [show spanR.m+1=2 from rfl] at ap
    have e3:tot P-c.length-p.2.length=tot P-(c++p.2).length:=by rw [List.length_append];omega
    rw [e3] at ap
    rw [e]
    simp -implicitDefEqProofs [k38_11,-List.length_append] at ih
    simp -implicitDefEqProofs [r38_11,k38_11,hi,ixi,Rec.o_fits,ap,hw,trim_le,-List.length_append]
    exact ih
 ·simp -implicitDefEqProofs [k38_3]
 ·rfl
 ·intro nx i c hi _
  simp -implicitDefEqProofs [r38_3,k38_3,hi,trim_le,tot]
 ·intro nx i p rest c hi hv hd hw hc ih
  have hr:P.drop (i+1)=rest:=by rw [← List.drop_drop,hd];rfl
  rw [hd] at hc
  have hc':c+(p.2.length+tot rest)≤1000000:=hc
  have ih:=ih (c+p.2.length) (by rw [hr];omega)
  have w1:IntKind.i64.wrap ((c:Int)+(p.2.length:Int))=((c+p.2.length:Nat):Int):=by rw [wrap64 (by omega) (by omega)];rfl
  have e:c+tot (p :: rest)=c+p.2.length+tot rest:=by show c+(p.2.length+tot rest)=_;omega
  have hp:=okI i hi
  rw [hv] at hp
  have ixi:=ix i hi
  rw [hv] at ixi
  have hneg:¬ (((c+p.2.length:Nat):Int)<0):=by omega
  rw [e]
  simp -implicitDefEqProofs [k38_3,-Int.natCast_add] at ih
  simp -implicitDefEqProofs [r38_3,k38_3,hi,ixi,Rec.o_fits,Rec.o_len hp,w1,hneg,hw,trim_le,-Int.natCast_add]
  exact ih
end Go.Proofs.YtnhdabelepjgbaaGreat.Bm
