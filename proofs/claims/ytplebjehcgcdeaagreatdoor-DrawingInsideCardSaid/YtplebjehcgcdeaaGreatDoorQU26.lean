/-
 Regions, plain: how the program's loops make columns, strips and lists of rectangles. Conditions: none. No program in sight.
-/
import Derived.Test.YtplebjehcgcdeaaGreatDoorQU18
import Derived.Test.YtplebjehcgcdeaaGreatDoorQU25
import Derived.Test.YtplebjehcgcdeaaGreatDoorQU20
import Derived.Test.YtplebjehcgcdeaaGreatDoorQU16
namespace Go.Proofs.YtplebjehcgcdeaaGreatDoor.Bm
open Go Go.RowKit
open Rg (Rect Slab)
def rectR:Rec Rect where
 enc r:=[.int .i64 r.x0,.int .i64 r.y0,.int .i64 r.x1,.int .i64 r.y1]
 m:=3
 len _:=rfl
 set _:=rfl
 bel _ _:=rfl
def spanR:Rec (Int × Int) where
 enc:=spanV
 m:=1
 len _:=rfl
 set _:=rfl
 bel _ _:=rfl
def colV (c:List (Int × Int)):Value:=lst false (spanR.vals c)
def slabR:Rec Slab where
 enc s:=[.int .i64 s.x0,.int .i64 s.x1,colV s.col]
 m:=2
 len _:=rfl
 set _:=rfl
 bel _ _:=rfl
theorem rect_val {r:Rect}:rectR.val r=.agg ⟨[.int .i64 r.x0,.int .i64 r.y0,.int .i64 r.x1,.int .i64 r.y1]⟩:=rfl
theorem span_val {s:Int × Int}:spanR.val s=.agg ⟨[.int .i64 s.1,.int .i64 s.2]⟩:=rfl
theorem slab_val {s:Slab}:slabR.val s=.agg ⟨[.int .i64 s.x0,.int .i64 s.x1,colV s.col]⟩:=rfl
theorem b4_none:buildT (Bl.fs ⟨[.int .i64 0,.int .i64 0,.int .i64 0,.int .i64 0]⟩ ⟨[(0,1),(1,1),(2,1),(3,1)]⟩) #[]=some (.agg ⟨[.int .i64 0,.int .i64 0,.int .i64 0,.int .i64 0]⟩):=rfl
theorem b4_all {a b c d:Int}:buildT (Bl.fs ⟨[.int .i64 0,.int .i64 0,.int .i64 0,.int .i64 0]⟩ ⟨[(0,1),(1,1),(2,1),(3,1)]⟩) #[(0,.int .i64 a),(1,.int .i64 b),(2,.int .i64 c),(3,.int .i64 d)]=some (.agg ⟨[.int .i64 a,.int .i64 b,.int .i64 c,.int .i64 d]⟩):=rfl
theorem b2_all {a b:Int}:buildT (Bl.fs ⟨[.int .i64 0,.int .i64 0]⟩ ⟨[(0,1),(1,1)]⟩) #[(0,.int .i64 a),(1,.int .i64 b)]=some (.agg ⟨[.int .i64 a,.int .i64 b]⟩):=rfl
def okR (r:Rect):Bool:=decide (0≤r.x0) && decide (r.x0<r.x1) && decide (r.x1≤1048576) && decide (0≤r.y0) && decide (r.y0<r.y1) && decide (r.y1≤1048576)
theorem right_spec (r:Rect):pureCall E.P (L E) 78 [rectR.val r]=some (.bool (okR r)):=by
 rw [pureCall_fn F78 rfl]
 simp -implicitDefEqProofs [r78,padS,rect_val]
 unfold okR
 by_cases h1:0≤r.x0
 case neg=>simp -implicitDefEqProofs [h1]
 by_cases h2:r.x0<r.x1
 case neg=>simp -implicitDefEqProofs [h1,h2]
 by_cases h3:r.x1≤1048576
 case neg=>simp -implicitDefEqProofs [h1,h2,h3]
 by_cases h4:0≤r.y0
 case neg=>simp -implicitDefEqProofs [h1,h2,h3,h4]
 by_cases h5:r.y0<r.y1
 case neg=>simp -implicitDefEqProofs [h1,h2,h3,h4,h5]
 simp -implicitDefEqProofs [h1,h2,h3,h4,h5]
theorem union_spec (a b:Bool):pureCall E.P (L E) 107 [.bool a,.bool b]=some (.bool (a || b)):=by
 rw [pureCall_fn F107 rfl]
 simp -implicitDefEqProofs [r107,padS]
 cases a <;> cases b <;> simp -implicitDefEqProofs
theorem common_spec (a b:Bool):pureCall E.P (L E) 135 [.bool a,.bool b]=some (.bool (a && b)):=by
 rw [pureCall_fn F135 rfl]
 simp -implicitDefEqProofs [r135,padS]
 cases a <;> cases b <;> simp -implicitDefEqProofs
theorem minus_spec (a b:Bool):pureCall E.P (L E) 106 [.bool a,.bool b]=some (.bool (a && !b)):=by
 rw [pureCall_fn F106 rfl]
 simp -implicitDefEqProofs [r106,padS]
 cases a <;> cases b <;> simp -implicitDefEqProofs
theorem inside1_spec (s:Int × Int) (y:Int):pureCall E.P (L E) 233 [spanR.val s,.int .i64 y]=some (.int .i64 (if s.2≤y then -1 else 1)):=by
 rw [pureCall_fn F233 rfl]
 simp -implicitDefEqProofs [r233,padS,span_val]
 by_cases h:s.2≤y <;> simp -implicitDefEqProofs [h]
theorem at1_spec (s:Slab) (x:Int):pureCall E.P (L E) 210 [slabR.val s,.int .i64 x]=some (.int .i64 (if s.x1≤x then -1 else 1)):=by
 rw [pureCall_fn F210 rfl]
 simp -implicitDefEqProofs [r210,padS,slab_val]
 by_cases h:s.x1≤x <;> simp -implicitDefEqProofs [h]
theorem right_s (r:Rect):pureCall E.P (L E) 78 [.agg ⟨[.int .i64 r.x0,.int .i64 r.y0,.int .i64 r.x1,.int .i64 r.y1]⟩]=some (.bool (okR r)):=right_spec r
def zeroR:Rect:=⟨0,0,0,0⟩
theorem checked_spec (r:Rect):pureCall E.P (L E) 136 [rectR.val r]=some (.tuple ⟨[if okR r then rectR.val r else rectR.val zeroR,.bool (okR r)]⟩):=by
 rw [pureCall_fn F136 rfl]
 simp -implicitDefEqProofs [r136,padS,rect_val,ret0 m78,right_s]
 cases h:okR r <;> simp -implicitDefEqProofs [zeroR,b4_none]
theorem checked_s (r:Rect):pureCall E.P (L E) 136 [.agg ⟨[.int .i64 r.x0,.int .i64 r.y0,.int .i64 r.x1,.int .i64 r.y1]⟩]=some (.tuple ⟨[if okR r then rectR.val r else rectR.val zeroR,.bool (okR r)]⟩):=checked_spec r
theorem okR_iff {r:Rect}:okR r=true↔r.inBox 1048576:=by
 unfold okR Rect.inBox
 simp only [Bool.and_eq_true,decide_eq_true_eq]
 omega
theorem area_bound {r:Rect} (h:okR r=true):0≤r.area∧r.area≤1099511627776:=by
 have:=okR_iff.1 h
 unfold Rect.inBox at this
 unfold Rect.area
 have h1:(r.x1-r.x0) * (r.y1-r.y0)≤1048576 * 1048576:=Int.mul_le_mul (by omega) (by omega) (by omega) (by omega)
 have h2:0≤(r.x1-r.x0) * (r.y1-r.y0):=Int.mul_nonneg (by omega) (by omega)
 omega
theorem area_spec (r:Rect) (h:okR r=true):pureCall E.P (L E) 72 [rectR.val r]=some (.int .i64 r.area):=by
 have hb:=okR_iff.1 h
 unfold Rect.inBox at hb
 have ha:=area_bound h
 unfold Rect.area at ha ⊢
 rw [pureCall_fn F72 rfl]
 have w1:IntKind.i64.wrap (r.x1-r.x0)=r.x1-r.x0:=wrap64 (by omega) (by omega)
 have w2:IntKind.i64.wrap (r.y1-r.y0)=r.y1-r.y0:=wrap64 (by omega) (by omega)
 have w3:IntKind.i64.wrap ((r.x1-r.x0) * (r.y1-r.y0))=(r.x1-r.x0) * (r.y1-r.y0):=wrap64 (by omega) (by omega)
 simp -implicitDefEqProofs [r72,padS,rect_val,ret0 m136,checked_s,h,w1,w2,w3]
theorem limited_spec (x:Bool) (l:List Rect):pureCall E.P (L E) 160 [lst x (rectR.vals l)]=some (if l.length≤200 then .tuple ⟨[lst x (rectR.vals l),.int .i64 0]⟩ else .tuple ⟨[.slice none 0 0,.int .i64 6]⟩):=by
 rw [pureCall_fn F160 rfl]
 simp -implicitDefEqProofs [r160,padS,Rec.vals_len]
 by_cases h:l.length≤200
 ·have h':¬ (200<(l.length:Int)):=by omega
  simp -implicitDefEqProofs [h,h']
 ·have h':200<(l.length:Int):=by omega
  simp -implicitDefEqProofs [h,h']
end Go.Proofs.YtplebjehcgcdeaaGreatDoor.Bm
namespace Go.Proofs.YtplebjehcgcdeaaGreatDoor.Bm
open Go Go.RowKit
open Rg (Rect Slab hasS hasS_cons Can canS cellT)
theorem shr_half {P:Program} {t:TypeId} {m:Nat}:aBin P .shr t (.int .u64 (m:Int)) (.int .u64 1)=some (.int .u64 ((m / 2:Nat):Int)):=by
 show (if (1:Int)<0 then none else some (Value.int .u64 ((m:Int).fdiv (2 ^ (min (1:Int).toNat 64)))))=_
 rw [if_neg (by decide)]
 have e:((2:Int) ^ (min (1:Int).toNat 64))=2:=by decide
 rw [e,Int.fdiv_eq_ediv_of_nonneg _ (by decide)]
 rfl
theorem wrapU {m:Nat} (h:m<9223372036854775808):IntKind.u64.wrap (m:Int)=(m:Int):=by
 unfold IntKind.wrap
 simp [IntKind.bits,IntKind.signed]
 omega
def bs (p:Nat→Bool) (i j:Nat):Nat:=if i<j then if p ((i+j) / 2) then bs p ((i+j) / 2+1) j else bs p i ((i+j) / 2) else i
termination_by j-i
decreasing_by all_goals omega
theorem bs_inv {p:Nat→Bool} {n:Nat}:∀ (d i j:Nat),j-i=d→i≤j→j≤n→(∀ a b,a≤b→b<n→p b=true→p a=true)→(∀ k,k<i→p k=true)→(∀ k,j≤k→k<n→p k=false) →
  bs p i j≤n∧∀ k,k<n→(k<bs p i j↔p k=true):=by
 intro d
 induction d using Nat.strongRecOn with
 | _ d ih =>
  intro i j hd hij hjn hm h1 h2
  rw [bs]
  by_cases h:i<j
  ·rw [if_pos h]
   by_cases hp:p ((i+j) / 2)=true
   ·rw [if_pos hp]
    refine ih (j-((i+j) / 2+1)) (by omega) _ _ rfl (by omega) hjn hm (fun k hk=>hm k _ (by omega) (by omega) hp) h2
   ·rw [if_neg hp]
    refine ih ((i+j) / 2-i) (by omega) _ _ rfl (by omega) (by omega) hm h1 fun k hk hkn=>?_
    cases hpk:p k
    ·rfl
    ·exact absurd (hm _ k hk hkn hpk) hp
  ·rw [if_neg h]
   have:i=j:=by omega
   subst this
   refine ⟨hjn,fun k hk=>⟨fun hlt=>h1 k hlt,fun hpk=>?_⟩⟩
   apply Classical.byContradiction
   intro hno
   rw [h2 k (by omega) hk] at hpk
   cases hpk
theorem bs_ok {p:Nat→Bool} {n:Nat} (hm:∀ a b,a≤b→b<n→p b=true→p a=true):bs p 0 n≤n∧∀ k,k<n→(k<bs p 0 n↔p k=true) :=
 bs_inv n 0 n rfl (Nat.zero_le _) (Nat.le_refl _) hm (fun k hk=>by omega) (fun k h1 h2=>by omega)
theorem bs_le {p:Nat→Bool} {n:Nat}:∀ (d i j:Nat),j-i=d→i≤j→j≤n→bs p i j≤n:=by
 intro d
 induction d using Nat.strongRecOn with
 | _ d ih =>
  intro i j hd hij hjn
  rw [bs]
  by_cases h:i<j
  ·rw [if_pos h]
   split
   ·exact ih (j-((i+j) / 2+1)) (by omega) _ _ rfl (by omega) hjn
   ·exact ih ((i+j) / 2-i) (by omega) _ _ rfl (by omega) (by omega)
  ·rw [if_neg h];omega
def pspan (c:List (Int × Int)) (y:Int) (k:Nat):Bool:=decide ((c.getD k (0,0)).2≤y)
theorem span_loop (c:List (Int × Int)) (y:Int) (hc:c.length≤1000000) :
  pureCall E.P (L E) 232 [lst false (spanR.vals c),.int .i64 y,.func (.func 233) ⟨[]⟩ ⟨[]⟩]=some (.tuple ⟨[.int .i64 ((bs (pspan c y) 0 c.length:Nat):Int),.bool false]⟩):=by
 have i1:=fun s=>inside1_spec s y
 have ix:∀ (i:Nat) (hi:i<c.length),indexAddrT (.sl 234 ⟨some true,some 2⟩) (lst false (spanR.vals c)) (.int .i64 (i:Int))=some (cptr (spanR.val c[i])):=fun i hi=>Rec.index_tree rfl hi
 have fit:∀ s,fitsTT ⟨some true,some 2⟩ (spanR.val s)=true:=fun s=>rfl
 have sv:∀ s,settled 8 (spanR.val s)=true:=fun s=>rfl
 have rv:∀ s h,reify E.P 8 h (spanR.val s)=some (spanR.val s):=fun s h=>by rw [span_val];rfl
 have ud:∀ (k:Nat) (hk:k<c.length),pspan c y k=decide ((c[k]).2≤y):=fun k hk=>by unfold pspan;rw [List.getD_eq_getElem?_getD,List.getElem?_eq_getElem hk];rfl
 rw [pureCall_fn F232 rfl]
 simp -implicitDefEqProofs [r232,padS,Rec.vals_len]
 rw [LL_rec (α:=Nat × Nat) (0,c.length) (fun a=>[(9,.int .i64 a.1),(10,.int .i64 a.2)]) (fun a=>[]) (fun a=>(.exit 0,[(9,.int .i64 ((bs (pspan c y) a.1 a.2:Nat):Int)),(10,undef)],[])) (fun a=>a.1≤a.2∧a.2≤c.length) (fun a=>a.2-a.1)]
 ·have hle:=bs_le (p:=pspan c y) (n:=c.length) _ 0 c.length rfl (Nat.zero_le _) (Nat.le_refl _)
  generalize bs (pspan c y) 0 c.length=m at hle ⊢
  simp -implicitDefEqProofs [k232_3]
  by_cases hm:m<c.length
  ·have e:¬ (m=c.length):=by omega
   simp -implicitDefEqProofs [hm,ix m hm,fit,rv,ret0 m233,i1]
   by_cases hv:(c[m]).2≤y <;> simp -implicitDefEqProofs [hv]
  ·simp -implicitDefEqProofs [hm]
 ·exact ⟨Nat.zero_le _,Nat.le_refl _⟩
 ·simp [k232_3]
 ·rfl
 ·intro nx a ha ih
  obtain ⟨i,j⟩:=a
  simp -implicitDefEqProofs [k232_3] at ha ih
  simp -implicitDefEqProofs [r232_3,k232_3]
  rw [bs]
  by_cases hij:i<j
  ·have hh:(i+j) / 2<c.length:=by omega
   have w1:IntKind.i64.wrap ((i:Int)+(j:Int))=((i+j:Nat):Int):=by rw [wrap64 (by omega) (by omega)];rfl
   have w2:IntKind.u64.wrap ((i+j:Nat):Int)=((i+j:Nat):Int):=wrapU (by omega)
   have w3:IntKind.i64.wrap (((i+j) / 2:Nat):Int)=(((i+j) / 2:Nat):Int):=wrap64 (by omega) (by omega)
   have w4:IntKind.i64.wrap ((((i+j) / 2:Nat):Int)+1)=(((i+j) / 2+1:Nat):Int):=by rw [wrap64 (by omega) (by omega)];rfl
   simp -implicitDefEqProofs [hij,w1,w2,shr_half,w3,ix _ hh,fit,rv,ret0 m233,i1,-Int.natCast_add,-Int.natCast_ediv,-Int.natCast_emod]
   rw [ud _ hh]
   by_cases hv:(c[(i+j) / 2]).2≤y
   ·have:=ih ((i+j) / 2+1) j (by omega) (by omega) (by omega)
    simp -implicitDefEqProofs [hv,w4,trim_le,-Int.natCast_add,-Int.natCast_ediv,-Int.natCast_emod] at this ⊢
    exact this
   ·have:=ih i ((i+j) / 2) (by omega) (by omega) (by omega)
    simp -implicitDefEqProofs [hv,trim_le,-Int.natCast_add,-Int.natCast_ediv,-Int.natCast_emod] at this ⊢
    exact this
  ·simp -implicitDefEqProofs [hij,trim_le]
def pslab (c:List (Slab)) (y:Int) (k:Nat):Bool:=decide ((c.getD k ⟨0,0,[]⟩).x1≤y)
theorem slab_loop (c:List (Slab)) (y:Int) (hc:c.length≤1000000) :
  pureCall E.P (L E) 209 [lst false (slabR.vals c),.int .i64 y,.func (.func 210) ⟨[]⟩ ⟨[]⟩]=some (.tuple ⟨[.int .i64 ((bs (pslab c y) 0 c.length:Nat):Int),.bool false]⟩):=by
 have i1:=fun s=>at1_spec s y
 have ix:∀ (i:Nat) (hi:i<c.length),indexAddrT (.sl 200 ⟨some true,some 3⟩) (lst false (slabR.vals c)) (.int .i64 (i:Int))=some (cptr (slabR.val c[i])):=fun i hi=>Rec.index_tree rfl hi
 have fit:∀ s,fitsTT ⟨some true,some 3⟩ (slabR.val s)=true:=fun s=>rfl
 have sv:∀ s,settled 8 (slabR.val s)=true:=fun s=>rfl
 have rv:∀ s h,reify E.P 8 h (slabR.val s)=some (slabR.val s):=fun s h=>by rw [slab_val];rfl
 have ud:∀ (k:Nat) (hk:k<c.length),pslab c y k=decide ((c[k]).x1≤y):=fun k hk=>by unfold pslab;rw [List.getD_eq_getElem?_getD,List.getElem?_eq_getElem hk];rfl
 rw [pureCall_fn F209 rfl]
 simp -implicitDefEqProofs [r209,padS,Rec.vals_len]
 rw [LL_rec (α:=Nat × Nat) (0,c.length) (fun a=>[(9,.int .i64 a.1),(10,.int .i64 a.2)]) (fun a=>[]) (fun a=>(.exit 0,[(9,.int .i64 ((bs (pslab c y) a.1 a.2:Nat):Int)),(10,undef)],[])) (fun a=>a.1≤a.2∧a.2≤c.length) (fun a=>a.2-a.1)]
 ·have hle:=bs_le (p:=pslab c y) (n:=c.length) _ 0 c.length rfl (Nat.zero_le _) (Nat.le_refl _)
  generalize bs (pslab c y) 0 c.length=m at hle ⊢
  simp -implicitDefEqProofs [k209_3]
  by_cases hm:m<c.length
  ·have e:¬ (m=c.length):=by omega
   simp -implicitDefEqProofs [hm,ix m hm,fit,rv,ret0 m210,i1]
   by_cases hv:(c[m]).x1≤y <;> simp -implicitDefEqProofs [hv]
  ·simp -implicitDefEqProofs [hm]
 ·exact ⟨Nat.zero_le _,Nat.le_refl _⟩
 ·simp [k209_3]
 ·rfl
 ·intro nx a ha ih
  obtain ⟨i,j⟩:=a
  simp -implicitDefEqProofs [k209_3] at ha ih
  simp -implicitDefEqProofs [r209_3,k209_3]
  rw [bs]
  by_cases hij:i<j
  ·have hh:(i+j) / 2<c.length:=by omega
   have w1:IntKind.i64.wrap ((i:Int)+(j:Int))=((i+j:Nat):Int):=by rw [wrap64 (by omega) (by omega)];rfl
   have w2:IntKind.u64.wrap ((i+j:Nat):Int)=((i+j:Nat):Int):=wrapU (by omega)
   have w3:IntKind.i64.wrap (((i+j) / 2:Nat):Int)=(((i+j) / 2:Nat):Int):=wrap64 (by omega) (by omega)
   have w4:IntKind.i64.wrap ((((i+j) / 2:Nat):Int)+1)=(((i+j) / 2+1:Nat):Int):=by rw [wrap64 (by omega) (by omega)];rfl
   simp -implicitDefEqProofs [hij,w1,w2,shr_half,w3,ix _ hh,fit,rv,ret0 m210,i1,-Int.natCast_add,-Int.natCast_ediv,-Int.natCast_emod]
   rw [ud _ hh]
   by_cases hv:(c[(i+j) / 2]).x1≤y
   ·have:=ih ((i+j) / 2+1) j (by omega) (by omega) (by omega)
    simp -implicitDefEqProofs [hv,w4,trim_le,-Int.natCast_add,-Int.natCast_ediv,-Int.natCast_emod] at this ⊢
    exact this
   ·have:=ih i ((i+j) / 2) (by omega) (by omega) (by omega)
    simp -implicitDefEqProofs [hv,trim_le,-Int.natCast_add,-Int.natCast_ediv,-Int.natCast_emod] at this ⊢
    exact this
  ·simp -implicitDefEqProofs [hij,trim_le]
end Go.Proofs.YtplebjehcgcdeaaGreatDoor.Bm
namespace Go.Proofs.YtplebjehcgcdeaaGreatDoor.Bm
open Go Go.RowKit
open Rg (Rect Slab hasS hasS_cons Can canS cellT gapless)
theorem canS_get:∀ {c:List (Int × Int)} {b:Int},canS b c→∀ i (hi:i<c.length),b<c[i].1∧c[i].1<c[i].2
 | [],_,_,i,hi=>by simp at hi
 | (f,t) :: c,b,h,0,_=>⟨h.1,h.2.1⟩
 | (f,t) :: c,b,h,i+1,hi=>by
  have hi':i<c.length:=by simpa using hi
  have:=canS_get h.2.2 i hi'
  have h1:=h.1
  have h2:=h.2.1
  have h3:b<c[i].1:=by omega
  exact ⟨h3,this.2⟩
theorem canS_two:∀ {c:List (Int × Int)} {b:Int},canS b c→∀ i j (hj:j<c.length) (hij:i<j),(c[i]'(by omega)).2<c[j].1
 | [],_,_,_,j,hj,_=>by simp at hj
 | (f,t) :: c,b,h,0,0,_,hij=>by omega
 | (f,t) :: c,b,h,0,j+1,hj,_=>(canS_get h.2.2 j (by simpa using hj)).1
 | (f,t) :: c,b,h,i+1,0,_,hij=>by omega
 | (f,t) :: c,b,h,i+1,j+1,hj,hij=>canS_two h.2.2 i j (by simpa using hj) (by omega)
theorem can_canS {c:List (Int × Int)} (h:Rg.Can c):∃ b,canS b c:=by
 obtain ⟨b,hb,_⟩:=Rg.low_ex c []
 exact ⟨b,Rg.canS_ex h b hb⟩
theorem hasS_get {c:List (Int × Int)} {y:Int}:hasS c y=true↔∃ i,∃ hi:i<c.length,c[i].1≤y∧y<c[i].2:=by
 unfold hasS
 rw [List.any_eq_true]
 constructor
 ·rintro ⟨s,hs,h⟩
  obtain ⟨i,hi,rfl⟩:=List.mem_iff_getElem.1 hs
  simp only [Bool.and_eq_true,decide_eq_true_eq] at h
  exact ⟨i,hi,h⟩
 ·rintro ⟨i,hi,h⟩
  exact ⟨c[i],List.getElem_mem hi,by simpa using h⟩
def inB (c:List (Int × Int)) (y:Int):Bool:=decide (bs (pspan c y) 0 c.length<c.length) && decide ((c.getD (bs (pspan c y) 0 c.length) (0,0)).1≤y)
theorem pspan_get {c:List (Int × Int)} {y:Int} {k:Nat} (hk:k<c.length):pspan c y k=decide (c[k].2≤y):=by
 unfold pspan;rw [List.getD_eq_getElem?_getD,List.getElem?_eq_getElem hk];rfl
theorem inB_has {c:List (Int × Int)} (h:Rg.Can c) (y:Int):inB c y=hasS c y:=by
 obtain ⟨b,hb⟩:=can_canS h
 have ok:=bs_ok (p:=pspan c y) (n:=c.length) fun i j hij hj hp=>by
  rw [pspan_get hj,decide_eq_true_eq] at hp
  rw [pspan_get (by omega),decide_eq_true_eq]
  by_cases e:i=j
  ·subst e;exact hp
  ·have:=canS_two hb i j hj (by omega)
   have:=(canS_get hb j hj).2
   omega
 unfold inB
 generalize bs (pspan c y) 0 c.length=m at ok ⊢
 obtain ⟨hm,ok⟩:=ok
 rw [Bool.eq_iff_iff,hasS_get]
 simp only [Bool.and_eq_true,decide_eq_true_eq]
 constructor
 ·rintro ⟨h1,h2⟩
  rw [List.getD_eq_getElem?_getD,List.getElem?_eq_getElem h1] at h2
  refine ⟨m,h1,h2,?_⟩
  have:=ok m h1
  rw [pspan_get h1,decide_eq_true_eq] at this
  omega
 ·rintro ⟨k,hk,h1,h2⟩
  have:=ok k hk
  rw [pspan_get hk,decide_eq_true_eq] at this
  have hmk:m≤k:=by omega
  have hlt:m<c.length:=by omega
  refine ⟨hlt,?_⟩
  rw [List.getD_eq_getElem?_getD,List.getElem?_eq_getElem hlt]
  show c[m].1≤y
  by_cases e:m=k
  ·subst e;exact h1
  ·have:=canS_two hb m k hk (by omega)
   have:=(canS_get hb m hlt).2
   omega
def colX:Option (List (Int × Int))→Value
 | none=>.slice none 0 0
 | some c=>lst false (spanR.vals c)
def colL (c:Option (List (Int × Int))):List (Int × Int):=c.getD []
theorem inside_some (c:List (Int × Int)) (y:Int) (hc:c.length≤1000000):pureCall E.P (L E) 208 [lst false (spanR.vals c),.int .i64 y]=some (.bool (inB c y)):=by
 have key:=span_loop c y hc
 have hle:=bs_le (p:=pspan c y) (n:=c.length) _ 0 c.length rfl (Nat.zero_le _) (Nat.le_refl _)
 have ix:∀ (i:Nat) (hi:i<c.length),indexAddrT (.sl 234 ⟨some true,some 2⟩) (lst false (spanR.vals c)) (.int .i64 (i:Int))=some (cptr (spanR.val c[i])):=fun i hi=>Rec.index_tree rfl hi
 unfold inB
 rw [pureCall_fn F208 rfl]
 generalize bs (pspan c y) 0 c.length=m at key hle ⊢
 simp -implicitDefEqProofs [r208,padS,ret0 m232,key,Rec.vals_len]
 by_cases hm:m<c.length
 ·simp -implicitDefEqProofs [hm,ix m hm,span_val]
 ·have:m=c.length:=by omega
  simp -implicitDefEqProofs [hm]
theorem span_none (y:Int):pureCall E.P (L E) 232 [.slice none 0 0,.int .i64 y,.func (.func 233) ⟨[]⟩ ⟨[]⟩]=some (.tuple ⟨[.int .i64 0,.bool false]⟩):=by
 rw [pureCall_fn F232 rfl]
 simp -implicitDefEqProofs [r232,padS]
 rw [LL_rec (α:=Unit) () (fun a=>[]) (fun a=>[]) (fun a=>(.exit 0,[(10,undef)],[])) (fun a=>True) (fun a=>0)]
 ·simp -implicitDefEqProofs [k232_3]
 ·trivial
 ·simp
 ·rfl
 ·intro nx a _ ih
  simp -implicitDefEqProofs [r232_3,k232_3,trim_le]
theorem inside_spec (c:Option (List (Int × Int))) (y:Int) (hc:(colL c).length≤1000000):pureCall E.P (L E) 208 [colX c,.int .i64 y]=some (.bool (inB (colL c) y)):=by
 cases c with
 | some c=>exact inside_some c y hc
 | none =>
  have key:=span_none y
  rw [pureCall_fn F208 rfl]
  simp -implicitDefEqProofs [r208,padS,colX,ret0 m232,key]
  simp [inB,colL]
def atO (T:List Slab) (x:Int):Option (List (Int × Int)) :=
 if bs (pslab T x) 0 T.length<T.length then if (T.getD (bs (pslab T x) 0 T.length) ⟨0,0,[]⟩).x0≤x then some (T.getD (bs (pslab T x) 0 T.length) ⟨0,0,[]⟩).col else none else none
theorem at_spec (T:List Slab) (x:Int) (hT:T.length≤1000000):pureCall E.P (L E) 164 [lst false (slabR.vals T),.int .i64 x]=some (colX (atO T x)):=by
 have key:=slab_loop T x hT
 have hle:=bs_le (p:=pslab T x) (n:=T.length) _ 0 T.length rfl (Nat.zero_le _) (Nat.le_refl _)
 have ix:∀ (i:Nat) (hi:i<T.length),indexAddrT (.sl 200 ⟨some true,some 3⟩) (lst false (slabR.vals T)) (.int .i64 (i:Int))=some (cptr (slabR.val T[i])):=fun i hi=>Rec.index_tree rfl hi
 unfold atO
 rw [pureCall_fn F164 rfl]
 generalize bs (pslab T x) 0 T.length=m at key hle ⊢
 simp -implicitDefEqProofs [r164,padS,ret0 m209,key,Rec.vals_len]
 by_cases hm:m<T.length
 ·simp -implicitDefEqProofs [hm,ix m hm,slab_val,colV]
  by_cases hx:T[m].x0≤x <;> simp -implicitDefEqProofs [hx,colX,ix m hm,slab_val,colV]
 ·simp -implicitDefEqProofs [hm,colX]
end Go.Proofs.YtplebjehcgcdeaaGreatDoor.Bm
namespace Go.Proofs.YtplebjehcgcdeaaGreatDoor.Bm
open Go Go.RowKit
open Rg (Rect Slab)
theorem neq2 (a b c d:Int):aBin E.P .neq 234 (.agg ⟨[.int .i64 a,.int .i64 b]⟩) (.agg ⟨[.int .i64 c,.int .i64 d]⟩)=(allOf [some (a == c),some (b == d)]).map fun b=>.bool (!b):=by kernel_rfl
theorem neq4 (a b c d a' b' c' d':Int):aBin E.P .neq 56 (.agg ⟨[.int .i64 a,.int .i64 b,.int .i64 c,.int .i64 d]⟩) (.agg ⟨[.int .i64 a',.int .i64 b',.int .i64 c',.int .i64 d']⟩)=(allOf [some (a == a'),some (b == b'),some (c == c'),some (d == d')]).map fun b=>.bool (!b):=by kernel_rfl
theorem allOf_some (b:Bool) (r:List (Option Bool)) (c:Bool) (h:allOf r=some c):allOf (some b :: r)=some (b && c):=by cases b <;> simp [allOf,h]
theorem allOf_two (a b:Bool):allOf [some a,some b]=some (a && (b && true)):=allOf_some _ _ _ (allOf_some _ _ _ rfl)
theorem allOf_four (a b c d:Bool):allOf [some a,some b,some c,some d]=some (a && (b && (c && (d && true)))):=allOf_some _ _ _ (allOf_some _ _ _ (allOf_some _ _ _ (allOf_some _ _ _ rfl)))
theorem neq_span (s t:Int × Int):aBin E.P .neq 234 (spanR.val s) (spanR.val t)=some (.bool (decide (s≠t))):=by
 obtain ⟨a,b⟩:=s
 obtain ⟨c,d⟩:=t
 rw [span_val,span_val,neq2]
 by_cases h1:a=c <;> by_cases h2:b=d <;> simp [allOf_two,h1,h2]
theorem neq_rect (s t:Rect):aBin E.P .neq 56 (rectR.val s) (rectR.val t)=some (.bool (decide (s≠t))):=by
 obtain ⟨a,b,c,d⟩:=s
 obtain ⟨a',b',c',d'⟩:=t
 rw [rect_val,rect_val,neq4]
 by_cases h1:a=a' <;> by_cases h2:b=b' <;> by_cases h3:c=c' <;> by_cases h4:d=d' <;> simp [allOf_four,h1,h2,h3,h4]
def eqLr {α:Type} [DecidableEq α] (a b:List α):Bool:=decide (a=b)
theorem eqL_cons {α:Type} [DecidableEq α] {a b:α} {x y:List α}:eqLr (a :: x) (b :: y)=(decide (a=b) && eqLr x y):=by
 unfold eqLr;simp only [List.cons.injEq,Bool.decide_and]
theorem equal_spans (x y:Bool) (l r:List (Int × Int)) (hl:l.length≤1000000):pureCall E.P (L E) 204 [lst x (spanR.vals l),lst y (spanR.vals r)]=some (.bool (decide (l=r))):=by
 have ixl:∀ (i:Nat) (hi:i<l.length),indexAddrT (.sl 234 ⟨some true,some 2⟩) (lst x (spanR.vals l)) (.int .i64 (i:Int))=some (cptr (spanR.val l[i])):=fun i hi=>Rec.index_tree rfl hi
 have ixr:∀ (i:Nat) (hi:i<r.length),indexAddrT (.sl 234 ⟨some true,some 2⟩) (lst y (spanR.vals r)) (.int .i64 (i:Int))=some (cptr (spanR.val r[i])):=fun i hi=>Rec.index_tree rfl hi
 have fit:∀ s,fitsTT ⟨some true,some 2⟩ (spanR.val s)=true:=fun s=>rfl
 have rv:∀ s h,reify E.P 8 h (spanR.val s)=some (spanR.val s):=fun s h=>rfl
 rw [pureCall_fn F204 rfl]
 simp -implicitDefEqProofs [r204,padS,Rec.vals_len]
 by_cases hlen:l.length=r.length
 ·simp -implicitDefEqProofs [hlen,Rec.vals_len]
  rw [LL_for (γ:=Unit) l () (fun i _=>[(13,.int .i64 i)]) (fun _ _=>[]) (fun i rest _=>if eqLr rest (r.drop i) then (.exit 0,[(13,undef)],[]) else (.ret,[(4,.bool false),(13,undef)],[])) (fun _ _=>True) (by omega) trivial]
  ·cases h:eqLr l r
   ·have:¬ l=r:=of_decide_eq_false h
    simp [this,k204_4,h]
   ·have:l=r:=of_decide_eq_true h
    simp [this,k204_4,eqLr]
  ·simp [k204_4]
  ·rfl
  ·intro nx i c hi _
   have hd0:eqLr [] (r.drop i)=true:=by rw [List.drop_eq_nil_of_le (by omega)];rfl
   rw [hd0]
   simp -implicitDefEqProofs [r204_4,k204_4,hi,hlen,trim_le]
  ·intro nx i v rest c hi hv hd hw _ ih
   have ih:=ih () trivial
   have hi':i<r.length:=by omega
   have hrd:r.drop i=r[i] :: r.drop (i+1):=List.drop_eq_getElem_cons hi'
   rw [hrd,eqL_cons]
   simp -implicitDefEqProofs [k204_4] at ih
   by_cases he:v=r[i]
   ·simp -implicitDefEqProofs [r204_4,k204_4,hi',ixl i hi,ixr i hi',fit,neq_span,hv,hw,he,trim_le]
    exact ih
   ·simp -implicitDefEqProofs [r204_4,k204_4,hi',ixl i hi,ixr i hi',fit,neq_span,hv,he,trim_le]
 ·have:¬ l=r:=fun e=>hlen (by rw [e])
  have hlen':¬ ((l.length:Int)=r.length):=by omega
  simp -implicitDefEqProofs [hlen',this]
theorem equal_rects (x y:Option Bool) (l r:List Rect) (hx:Rec.Ok x l) (hy:Rec.Ok y r) (hl:l.length≤1000000):pureCall E.P (L E) 104 [rectR.o x l,rectR.o y r]=some (.bool (decide (l=r))):=by
 have ixl:∀ (i:Nat) (hi:i<l.length),indexAddrT (.sl 56 ⟨some true,some 4⟩) (rectR.o x l) (.int .i64 (i:Int))=some (cptr (rectR.val l[i])):=fun i hi=>Rec.o_index (R:=rectR) rfl hx hi
 have ixr:∀ (i:Nat) (hi:i<r.length),indexAddrT (.sl 56 ⟨some true,some 4⟩) (rectR.o y r) (.int .i64 (i:Int))=some (cptr (rectR.val r[i])):=fun i hi=>Rec.o_index (R:=rectR) rfl hy hi
 have fit:∀ s,fitsTT ⟨some true,some 4⟩ (rectR.val s)=true:=fun s=>rfl
 have rv:∀ s h,reify E.P 8 h (rectR.val s)=some (rectR.val s):=fun s h=>rfl
 rw [pureCall_fn F104 rfl]
 simp -implicitDefEqProofs [r104,padS,Rec.o_len hx,Rec.o_len hy]
 by_cases hlen:l.length=r.length
 ·simp -implicitDefEqProofs [hlen,Rec.o_len hx]
  rw [LL_for (γ:=Unit) l () (fun i _=>[(13,.int .i64 i)]) (fun _ _=>[]) (fun i rest _=>if eqLr rest (r.drop i) then (.exit 0,[(13,undef)],[]) else (.ret,[(4,.bool false),(13,undef)],[])) (fun _ _=>True) (by omega) trivial]
  ·cases h:eqLr l r
   ·have:¬ l=r:=of_decide_eq_false h
    simp [this,k104_4,h]
   ·have:l=r:=of_decide_eq_true h
    simp [this,k104_4,eqLr]
  ·simp [k104_4]
  ·rfl
  ·intro nx i c hi _
   have hd0:eqLr [] (r.drop i)=true:=by rw [List.drop_eq_nil_of_le (by omega)];rfl
   rw [hd0]
   simp -implicitDefEqProofs [r104_4,k104_4,hi,hlen,trim_le]
  ·intro nx i v rest c hi hv hd hw _ ih
   have ih:=ih () trivial
   have hi':i<r.length:=by omega
   have hrd:r.drop i=r[i] :: r.drop (i+1):=List.drop_eq_getElem_cons hi'
   rw [hrd,eqL_cons]
   simp -implicitDefEqProofs [k104_4] at ih
   by_cases he:v=r[i]
   ·simp -implicitDefEqProofs [r104_4,k104_4,hi',ixl i hi,ixr i hi',fit,neq_rect,hv,hw,he,trim_le]
    exact ih
   ·simp -implicitDefEqProofs [r104_4,k104_4,hi',ixl i hi,ixr i hi',fit,neq_rect,hv,he,trim_le]
 ·have:¬ l=r:=fun e=>hlen (by rw [e])
  have hlen':¬ ((l.length:Int)=r.length):=by omega
  simp -implicitDefEqProofs [hlen',this]
end Go.Proofs.YtplebjehcgcdeaaGreatDoor.Bm
namespace Go.Proofs.YtplebjehcgcdeaaGreatDoor.Bm
open Go Go.RowKit
open Rg (Rect Slab)
theorem cap_nil {h:Heap}:lenT .cap h (.slice none 0 0)=some (.int .i64 0):=rfl
def tot {α:Type}:List (Option Bool × List α)→Nat
 | []=>0
 | p :: r=>p.2.length+tot r
def allP {α:Type} (P:List (Option Bool × List α)):List α:=P.flatMap (·.2)
theorem tot_all {α:Type}:∀ (P:List (Option Bool × List α)),(allP P).length=tot P
 | []=>rfl
 | p :: r=>by
  show (p.2++allP r).length=p.2.length+tot r
  rw [List.length_append,tot_all r]
theorem tot_zero {α:Type} {P:List (Option Bool × List α)} (h:tot P=0):∀ p∈P,p.2=[]:=by
 intro p hp
 have h0:(allP P).length=0:=by rw [tot_all,h]
 have:allP P=[]:=List.eq_nil_of_length_eq_zero h0
 apply List.eq_nil_iff_forall_not_mem.2
 intro a ha
 have:a∈allP P:=List.mem_flatMap.2 ⟨p,hp,ha⟩
 rw [‹allP P=[]›] at this
 cases this
theorem spans_grow (n:Nat) (h:Heap) (lo:Nat) (hn:n≤1000000):L E 231 [.slice none 0 0,.int .i64 (n:Int)] h lo =
  some (if n=0 then (.slice none 0 0,h) else (.slice (some ⟨h.length,0,some (n * 2)⟩) 0 n,h++[spanR.row 234 (List.replicate n (0,0))])):=by
 have sn:sliceT (.sl 234 ⟨some true,some 2⟩) h (.slice none 0 0) none (some (.int .i64 0)) none=some (.slice none 0 0):=Rec.slice_none rfl
 have w1:IntKind.i64.wrap (n:Int)=n:=wrap64 (by omega) (by omega)
 have w0:IntKind.i64.wrap 0=0:=rfl
 rw [L_fn F231 rfl]
 simp -implicitDefEqProofs [r231,padS]
 by_cases h0:n=0
 ·subst h0
  simp -implicitDefEqProofs [cap_nil,w0]
 ·have h1:0<n:=by omega
  have h2:¬ ((n:Int)<0):=by omega
  have ap:=Rec.appN (R:=spanR) (el:=⟨234,2,16,.agg ⟨[.int .i64 0,.int .i64 0]⟩,⟨some true,some 2⟩⟩) (h:=h) (n:=n) (k:=.i64) (a:=(0,0)) rfl rfl h1 (by show n * 16≤2 ^ 47;omega)
  have sl:=Rec.slice_row0 (R:=spanR) (e:=234) (t:=234) (g:=some true) (h:=h++[spanR.row 234 (List.replicate n (0,0))]) (b:=h.length) (n:=n) (l:=List.replicate n (0,0)) (k:=.i64) rfl (by simp) (by simp)
  simp only [show spanR.m+1=2 from rfl] at ap sl
  simp -implicitDefEqProofs [h0,h1,h2,cap_nil,sn,w0,w1,ap,sl]
theorem spans_concat (x:Bool) (P:List (Option Bool × List (Int × Int))) (hok:∀ p∈P,Rec.Ok p.1 p.2) (hP:P.length≤1000) (ht:tot P≤1000000) :
  pureCall E.P (L E) 207 [lst x (P.map fun p=>spanR.o p.1 p.2)]=some (spanR.o (if tot P=0 then none else some false) (allP P)):=by
 have okI:∀ (i:Nat) (hi:i<P.length),Rec.Ok (P[i]).1 (P[i]).2:=fun i hi=>hok _ (List.getElem_mem hi)
 have ix:∀ (i:Nat) (hi:i<P.length),indexAddrT (.sl 198 ⟨some false,some 1⟩) (lst x (P.map fun p=>spanR.o p.1 p.2)) (.int .i64 (i:Int))=some (cptr (spanR.o (P[i]).1 (P[i]).2)):=fun i hi=>by
  have e:(P.map fun p=>spanR.o p.1 p.2)[i]?=some (spanR.o (P[i]).1 (P[i]).2):=by simp [hi]
  rw [index_lst,if_pos (by omega),show ((i:Int)).toNat=i by omega,e,Option.bind_some,if_pos (by rw [Rec.o_fits,Rec.o_cells1];rfl)]
 have gr:=spans_grow (tot P)
 rw [pureCall_fn F207 rfl]
 simp -implicitDefEqProofs [r207,padS]
 rw [LL_for (γ:=Nat) P 0 (fun i c=>[(3,.int .i64 (c:Int)),(11,.int .i64 i)]) (fun _ _=>[]) (fun i rest c=>(.exit 0,[(3,.int .i64 ((c+tot rest:Nat):Int)),(11,undef)],[])) (fun i c=>c+tot (P.drop i)≤1000000) (by omega) (by simpa using ht)]
 ·rw [Nat.zero_add]
  simp -implicitDefEqProofs [k207_3,ret2 m231,gr,ht]
  by_cases h0:tot P=0
  ·have hz:=tot_zero h0
   have ha:allP P=[]:=List.eq_nil_of_length_eq_zero (by rw [tot_all,h0])
   simp -implicitDefEqProofs [h0,ha]
   rw [LL_for (γ:=Unit) P () (fun i _=>[(27,.int .i64 i)]) (fun _ _=>[]) (fun _ _ _=>(.exit 2,[(27,undef)],[])) (fun _ _=>True) (by omega) trivial]
   ·simp -implicitDefEqProofs [k207_11,Rec.o]
   ·simp -implicitDefEqProofs [k207_11]
   ·rfl
   ·intro nx i c hi _
    simp -implicitDefEqProofs [r207_11,k207_11,hi,trim_le]
   ·intro nx i p rest c hi hv hd hw _ ih
    have ih:=ih () trivial
    have hp:=okI i hi
    have ixi:=ix i hi
    rw [hv] at hp ixi
    have hpe:=hz p (hv ▸ List.getElem_mem hi)
    have cl:sliceCells [] 2 (spanR.o p.1 p.2)=some ([],0):=(Rec.o_cells (R:=spanR) (s:=2) rfl hp).trans (by rw [hpe];rfl)
    simp -implicitDefEqProofs [k207_11] at ih
    simp -implicitDefEqProofs [r207_11,k207_11,hi,ixi,Rec.o_fits,append_nil,cl,hw,trim_le]
    exact ih
  ·have h1:0<tot P:=by omega
   simp -implicitDefEqProofs [h0]
   rw [LL_for (γ:=List (Int × Int)) P [] (fun i c=>[(6,.slice (some ⟨0,0,some (tot P * 2)⟩) c.length (tot P)),(27,.int .i64 i)]) (fun _ c=>[spanR.row 234 (c++List.replicate (tot P-c.length) (0,0))])
    (fun _ rest c=>(.exit 2,[(6,.slice (some ⟨0,0,some (tot P * 2)⟩) (c++allP rest).length (tot P)),(27,undef)],[spanR.row 234 ((c++allP rest)++List.replicate (tot P-(c++allP rest).length) (0,0))])) (fun i c=>c.length+tot (P.drop i)=tot P) (by omega) (by simp)]
   ·have e:[]++allP P=allP P:=rfl
    have e2:tot P-(allP P).length=0:=by rw [tot_all];omega
    have rr:=Rec.reify_row (R:=spanR) (P:=E.P) (h:=[spanR.row 234 (allP P)]) (b:=0) (n:=7) (t:=234) (l:=allP P) rfl (by kernel_rfl) (by kernel_rfl)
    rw [e,e2,List.replicate_zero,List.append_nil]
    unfold Rec.sl at rr
    rw [tot_all] at rr ⊢
    simp only [show spanR.m+1=2 from rfl] at rr
    simp -implicitDefEqProofs [k207_11,-reify_slice,rr,Rec.o]
   ·simp -implicitDefEqProofs [k207_11]
   ·simp
   ·intro nx i c hi _
    simp -implicitDefEqProofs [r207_11,k207_11,hi,trim_le,allP]
   ·intro nx i p rest c hi hv hd hw hc ih
    have hr:P.drop (i+1)=rest:=by rw [← List.drop_drop,hd];rfl
    rw [hd] at hc
    have hc':c.length+(p.2.length+tot rest)=tot P:=hc
    have ih:=ih (c++p.2) (by rw [hr,List.length_append];omega)
    have hp:=okI i hi
    have ixi:=ix i hi
    rw [hv] at hp ixi
    have e:c++allP (p :: rest)=c++p.2++allP rest:=by
     show c++(p.2++allP rest)=_
     rw [List.append_assoc]
    have ap:=Rec.app_fill (R:=spanR) (el:=⟨234,2,16,.agg ⟨[.int .i64 0,.int .i64 0]⟩,⟨some true,some 2⟩⟩) (h:=[spanR.row 234 (c++List.replicate (tot P-c.length) (0,0))]) (lo:=0) (b:=0) (n:=tot P) (r:=tot P-c.length) (t:=234) (acc:=c) (m:=p.2) (z:=(0,0)) (u:=spanR.o p.1 p.2)
     rfl rfl (by omega) (Rec.o_cells rfl hp) (Nat.le_refl _) (by omega)
    simp only [show spanR.m+1=2 from rfl] at ap
    have e3:tot P-c.length-p.2.length=tot P-(c++p.2).length:=by rw [List.length_append];omega
    rw [e3] at ap
    rw [e]
    simp -implicitDefEqProofs [k207_11,-List.length_append] at ih
    simp -implicitDefEqProofs [r207_11,k207_11,hi,ixi,Rec.o_fits,ap,hw,trim_le,-List.length_append]
    exact ih
 ·simp -implicitDefEqProofs [k207_3]
 ·rfl
 ·intro nx i c hi _
  simp -implicitDefEqProofs [r207_3,k207_3,hi,trim_le,tot]
 ·intro nx i p rest c hi hv hd hw hc ih
  have hr:P.drop (i+1)=rest:=by rw [← List.drop_drop,hd];rfl
  rw [hd] at hc
  have hc':c+(p.2.length+tot rest)≤1000000:=hc
  have ih:=ih (c+p.2.length) (by rw [hr];omega)
  have w1:IntKind.i64.wrap ((c:Int)+(p.2.length:Int))=((c+p.2.length:Nat):Int):=by rw [wrap64 (by omega) (by omega)];rfl
  have e:c+tot (p :: rest)=c+p.2.length+tot rest:=by show c+(p.2.length+tot rest)=_;omega
  have hp:=okI i hi
  rw [hv] at hp
  have ixi:=ix i hi
  rw [hv] at ixi
  have hneg:¬ (((c+p.2.length:Nat):Int)<0):=by omega
  rw [e]
  simp -implicitDefEqProofs [k207_3,-Int.natCast_add] at ih
  simp -implicitDefEqProofs [r207_3,k207_3,hi,ixi,Rec.o_fits,Rec.o_len hp,w1,hneg,hw,trim_le,-Int.natCast_add]
  exact ih
theorem rects_grow (n:Nat) (h:Heap) (lo:Nat) (hn:n≤1000000):L E 228 [.slice none 0 0,.int .i64 (n:Int)] h lo =
  some (if n=0 then (.slice none 0 0,h) else (.slice (some ⟨h.length,0,some (n * 4)⟩) 0 n,h++[rectR.row 56 (List.replicate n zeroR)])):=by
 have sn:sliceT (.sl 56 ⟨some true,some 4⟩) h (.slice none 0 0) none (some (.int .i64 0)) none=some (.slice none 0 0):=Rec.slice_none rfl
 have w1:IntKind.i64.wrap (n:Int)=n:=wrap64 (by omega) (by omega)
 have w0:IntKind.i64.wrap 0=0:=rfl
 rw [L_fn F228 rfl]
 simp -implicitDefEqProofs [r228,padS]
 by_cases h0:n=0
 ·subst h0
  simp -implicitDefEqProofs [cap_nil,w0]
 ·have h1:0<n:=by omega
  have h2:¬ ((n:Int)<0):=by omega
  have ap:=Rec.appN (R:=rectR) (el:=⟨56,4,32,.agg ⟨[.int .i64 0,.int .i64 0,.int .i64 0,.int .i64 0]⟩,⟨some true,some 4⟩⟩) (h:=h) (n:=n) (k:=.i64) (a:=zeroR) rfl rfl h1 (by show n * 32≤2 ^ 47;omega)
  have sl:=Rec.slice_row0 (R:=rectR) (e:=56) (t:=56) (g:=some true) (h:=h++[rectR.row 56 (List.replicate n zeroR)]) (b:=h.length) (n:=n) (l:=List.replicate n zeroR) (k:=.i64) rfl (by simp) (by simp)
  simp only [show rectR.m+1=4 from rfl] at ap sl
  simp -implicitDefEqProofs [h0,h1,h2,cap_nil,sn,w0,w1,ap,sl]
theorem rects_concat (x:Bool) (P:List (Option Bool × List (Rect))) (hok:∀ p∈P,Rec.Ok p.1 p.2) (hP:P.length≤1000) (ht:tot P≤1000000) :
  pureCall E.P (L E) 205 [lst x (P.map fun p=>rectR.o p.1 p.2)]=some (rectR.o (if tot P=0 then none else some false) (allP P)):=by
 have okI:∀ (i:Nat) (hi:i<P.length),Rec.Ok (P[i]).1 (P[i]).2:=fun i hi=>hok _ (List.getElem_mem hi)
 have ix:∀ (i:Nat) (hi:i<P.length),indexAddrT (.sl 31 ⟨some false,some 1⟩) (lst x (P.map fun p=>rectR.o p.1 p.2)) (.int .i64 (i:Int))=some (cptr (rectR.o (P[i]).1 (P[i]).2)):=fun i hi=>by
  have e:(P.map fun p=>rectR.o p.1 p.2)[i]?=some (rectR.o (P[i]).1 (P[i]).2):=by simp [hi]
  rw [index_lst,if_pos (by omega),show ((i:Int)).toNat=i by omega,e,Option.bind_some,if_pos (by rw [Rec.o_fits,Rec.o_cells1];rfl)]
 have gr:=rects_grow (tot P)
 rw [pureCall_fn F205 rfl]
 simp -implicitDefEqProofs [r205,padS]
 rw [LL_for (γ:=Nat) P 0 (fun i c=>[(3,.int .i64 (c:Int)),(11,.int .i64 i)]) (fun _ _=>[]) (fun i rest c=>(.exit 0,[(3,.int .i64 ((c+tot rest:Nat):Int)),(11,undef)],[])) (fun i c=>c+tot (P.drop i)≤1000000) (by omega) (by simpa using ht)]
 ·rw [Nat.zero_add]
  simp -implicitDefEqProofs [k205_3,ret2 m228,gr,ht]
  by_cases h0:tot P=0
  ·have hz:=tot_zero h0
   have ha:allP P=[]:=List.eq_nil_of_length_eq_zero (by rw [tot_all,h0])
   simp -implicitDefEqProofs [h0,ha]
   rw [LL_for (γ:=Unit) P () (fun i _=>[(27,.int .i64 i)]) (fun _ _=>[]) (fun _ _ _=>(.exit 2,[(27,undef)],[])) (fun _ _=>True) (by omega) trivial]
   ·simp -implicitDefEqProofs [k205_11,Rec.o]
   ·simp -implicitDefEqProofs [k205_11]
   ·rfl
   ·intro nx i c hi _
    simp -implicitDefEqProofs [r205_11,k205_11,hi,trim_le]
   ·intro nx i p rest c hi hv hd hw _ ih
    have ih:=ih () trivial
    have hp:=okI i hi
    have ixi:=ix i hi
    rw [hv] at hp ixi
    have hpe:=hz p (hv ▸ List.getElem_mem hi)
    have cl:sliceCells [] 4 (rectR.o p.1 p.2)=some ([],0):=(Rec.o_cells (R:=rectR) (s:=4) rfl hp).trans (by rw [hpe];rfl)
    simp -implicitDefEqProofs [k205_11] at ih
    simp -implicitDefEqProofs [r205_11,k205_11,hi,ixi,Rec.o_fits,append_nil,cl,hw,trim_le]
    exact ih
  ·have h1:0<tot P:=by omega
   simp -implicitDefEqProofs [h0]
   rw [LL_for (γ:=List (Rect)) P [] (fun i c=>[(6,.slice (some ⟨0,0,some (tot P * 4)⟩) c.length (tot P)),(27,.int .i64 i)]) (fun _ c=>[rectR.row 56 (c++List.replicate (tot P-c.length) zeroR)])
    (fun _ rest c=>(.exit 2,[(6,.slice (some ⟨0,0,some (tot P * 4)⟩) (c++allP rest).length (tot P)),(27,undef)],[rectR.row 56 ((c++allP rest)++List.replicate (tot P-(c++allP rest).length) zeroR)])) (fun i c=>c.length+tot (P.drop i)=tot P) (by omega) (by simp)]
   ·have e:[]++allP P=allP P:=rfl
    have e2:tot P-(allP P).length=0:=by rw [tot_all];omega
    have rr:=Rec.reify_row (R:=rectR) (P:=E.P) (h:=[rectR.row 56 (allP P)]) (b:=0) (n:=7) (t:=56) (l:=allP P) rfl (by kernel_rfl) (by kernel_rfl)
    rw [e,e2,List.replicate_zero,List.append_nil]
    unfold Rec.sl at rr
    rw [tot_all] at rr ⊢
    simp only [show rectR.m+1=4 from rfl] at rr
    simp -implicitDefEqProofs [k205_11,-reify_slice,rr,Rec.o]
   ·simp -implicitDefEqProofs [k205_11]
   ·simp
   ·intro nx i c hi _
    simp -implicitDefEqProofs [r205_11,k205_11,hi,trim_le,allP]
   ·intro nx i p rest c hi hv hd hw hc ih
    have hr:P.drop (i+1)=rest:=by rw [← List.drop_drop,hd];rfl
    rw [hd] at hc
    have hc':c.length+(p.2.length+tot rest)=tot P:=hc
    have ih:=ih (c++p.2) (by rw [hr,List.length_append];omega)
    have hp:=okI i hi
    have ixi:=ix i hi
    rw [hv] at hp ixi
    have e:c++allP (p :: rest)=c++p.2++allP rest:=by
     show c++(p.2++allP rest)=_
     rw [List.append_assoc]
    have ap:=Rec.app_fill (R:=rectR) (el:=⟨56,4,32,.agg ⟨[.int .i64 0,.int .i64 0,.int .i64 0,.int .i64 0]⟩,⟨some true,some 4⟩⟩) (h:=[rectR.row 56 (c++List.replicate (tot P-c.length) zeroR)]) (lo:=0) (b:=0) (n:=tot P) (r:=tot P-c.length) (t:=56) (acc:=c) (m:=p.2) (z:=zeroR) (u:=rectR.o p.1 p.2)
     rfl rfl (by omega) (Rec.o_cells rfl hp) (Nat.le_refl _) (by omega)
    simp only [show rectR.m+1=4 from rfl] at ap
    have e3:tot P-c.length-p.2.length=tot P-(c++p.2).length:=by rw [List.length_append];omega
    rw [e3] at ap
    rw [e]
    simp -implicitDefEqProofs [k205_11,-List.length_append] at ih
    simp -implicitDefEqProofs [r205_11,k205_11,hi,ixi,Rec.o_fits,ap,hw,trim_le,-List.length_append]
    exact ih
 ·simp -implicitDefEqProofs [k205_3]
 ·rfl
 ·intro nx i c hi _
  simp -implicitDefEqProofs [r205_3,k205_3,hi,trim_le,tot]
 ·intro nx i p rest c hi hv hd hw hc ih
  have hr:P.drop (i+1)=rest:=by rw [← List.drop_drop,hd];rfl
  rw [hd] at hc
  have hc':c+(p.2.length+tot rest)≤1000000:=hc
  have ih:=ih (c+p.2.length) (by rw [hr];omega)
  have w1:IntKind.i64.wrap ((c:Int)+(p.2.length:Int))=((c+p.2.length:Nat):Int):=by rw [wrap64 (by omega) (by omega)];rfl
  have e:c+tot (p :: rest)=c+p.2.length+tot rest:=by show c+(p.2.length+tot rest)=_;omega
  have hp:=okI i hi
  rw [hv] at hp
  have ixi:=ix i hi
  rw [hv] at ixi
  have hneg:¬ (((c+p.2.length:Nat):Int)<0):=by omega
  rw [e]
  simp -implicitDefEqProofs [k205_3,-Int.natCast_add] at ih
  simp -implicitDefEqProofs [r205_3,k205_3,hi,ixi,Rec.o_fits,Rec.o_len hp,w1,hneg,hw,trim_le,-Int.natCast_add]
  exact ih
end Go.Proofs.YtplebjehcgcdeaaGreatDoor.Bm
namespace Go.Proofs.YtplebjehcgcdeaaGreatDoor.Rg
open Bm (compG compI sortI)
def gstep (o:List (Int × Int)) (s:Int × Int):List (Int × Int):=match o.getLast? with
 | some u=>if s.1≤u.2 then o.dropLast++[(u.1,max u.2 s.2)] else o++[s]
 | none=>[s]
theorem gstep_snoc (o:List (Int × Int)) (u s:Int × Int):gstep (o++[u]) s=o++(if s.1≤u.2 then [(u.1,max u.2 s.2)] else [u,s]):=by
 unfold gstep
 rw [List.getLast?_concat]
 simp only
 split
 ·rw [List.dropLast_concat]
 ·rw [List.append_assoc];rfl
theorem gstep_glue:∀ (l:List (Int × Int)) (o:List (Int × Int)) (u:Int × Int),l.foldl gstep (o++[u])=o++glue u l
 | [],o,u=>rfl
 | s :: l,o,u=>by
  rw [List.foldl_cons,gstep_snoc]
  unfold glue
  split
  ·exact gstep_glue l o _
  ·have e:o++[u,s]=(o++[u])++[s]:=by rw [List.append_assoc];rfl
   rw [e,gstep_glue l (o++[u]) s,List.append_assoc];rfl
theorem gstep_col (l:List (Int × Int)):l.foldl gstep []=colF l:=by
 cases l with
 | nil=>rfl
 | cons s l=>exact gstep_glue l [] s
def own (l:List Rect) (x:Int):List (Int × Int):=(l.filter fun r=>decide (r.x0≤x) && decide (x<r.x1)).map fun r=>(r.y0,r.y1)
theorem own_cons (r:Rect) (l:List Rect) (x:Int):own (r :: l) x=(if r.x0≤x∧x<r.x1 then [(r.y0,r.y1)] else [])++own l x:=by
 unfold own
 by_cases h:r.x0≤x∧x<r.x1
 ·rw [if_pos h,List.filter_cons_of_pos (by simpa using h)];rfl
 ·rw [if_neg h,List.filter_cons_of_neg (by simpa using h)];rfl
theorem own_has (l:List Rect) (x y:Int):hasS (own l x) y=cell l x y:=by
 induction l with
 | nil=>rfl
 | cons r l ih =>
  rw [own_cons,hasS_append,ih]
  show _=(r.has x y || cell l x y)
  congr 1
  unfold Rect.has
  by_cases h:r.x0≤x∧x<r.x1
  ·rw [if_pos h]
   simp [hasS,h]
  ·rw [if_neg h,and_no h]
   simp [hasS]
theorem hasS_perm {a b:List (Int × Int)} (h:a.Perm b) (y:Int):hasS a y=hasS b y:=by
 rw [Bool.eq_iff_iff]
 unfold hasS
 simp only [List.any_eq_true]
 exact ⟨fun ⟨s,hs,k⟩=>⟨s,h.mem_iff.1 hs,k⟩,fun ⟨s,hs,k⟩=>⟨s,h.mem_iff.2 hs,k⟩⟩
def colC (l:List Rect) (x:Int):List (Int × Int):=colF (sortS (own l x))
theorem colC_ok {l:List Rect} (hl:∀ r∈l,r.y0<r.y1) (x:Int):Can (colC l x)∧∀ y,hasS (colC l x) y=cell l x y:=by
 have hp:=sortS_sorted (own l x)
 have hs:∀ u∈sortS (own l x),u.1<u.2:=fun u hu=>by
  have hu:=(sortS_perm (own l x)).mem_iff.1 hu
  unfold own at hu
  obtain ⟨r,hr,rfl⟩:=List.mem_map.1 hu
  exact hl r (List.mem_filter.1 hr).1
 refine ⟨colF_can hp hs,fun y=>?_⟩
 unfold colC
 rw [colF_has hp hs,hasS_perm (sortS_perm _),own_has]
theorem colC_len (l:List Rect) (x:Int):(colC l x).length≤l.length:=by
 have glue_len:∀ (l:List (Int × Int)) (s:Int × Int),(glue s l).length≤l.length+1:=by
  intro l
  induction l with
  | nil=>intro s;exact Nat.le_refl _
  | cons u l ih =>
   intro s
   unfold glue
   split
   ·exact Nat.le_succ_of_le (ih _)
   ·exact Nat.succ_le_succ (ih u)
 have h1:(sortS (own l x)).length≤l.length:=by
  rw [(sortS_perm _).length_eq]
  unfold own
  rw [List.length_map];exact List.length_filter_le _ _
 unfold colC
 cases h:sortS (own l x) with
 | nil=>exact Nat.zero_le _
 | cons s m =>
  rw [h] at h1
  exact Nat.le_trans (glue_len m s) h1
theorem compG_mem:∀ (l:List Int) (p:Option Int) (z:Int),z∈compG p l→z∈l
 | [],_,_,h=>by cases h
 | a :: l,p,z,h=>by
  unfold compG at h
  split at h
  ·exact List.mem_cons_of_mem _ (compG_mem l p z h)
  ·rcases List.mem_cons.1 h with rfl | h
   ·exact List.mem_cons_self
   ·exact List.mem_cons_of_mem _ (compG_mem l _ z h)
theorem compG_all:∀ (l:List Int) (p:Option Int) (z:Int),z∈l→z∈compG p l∨p=some z
 | [],_,_,h=>by cases h
 | a :: l,p,z,h=>by
  unfold compG
  split
  ·rename_i e
   rcases List.mem_cons.1 h with rfl | h
   ·exact .inr e
   ·exact compG_all l p z h
  ·rcases List.mem_cons.1 h with rfl | h
   ·exact .inl List.mem_cons_self
   ·rcases compG_all l (some a) z h with k | k
    ·exact .inl (List.mem_cons_of_mem _ k)
    ·cases k;exact .inl List.mem_cons_self
theorem compG_asc:∀ (l:List Int) (p:Option Int),l.Pairwise (·≤·)→(∀ a∈p,∀ z∈l,a≤z)→(compG p l).Pairwise (· < ·)∧∀ a∈p,∀ z∈compG p l,a<z
 | [],_,_,_=>⟨.nil,fun a _ z h=>by cases h⟩
 | b :: l,p,hp,ha=>by
  rw [List.pairwise_cons] at hp
  unfold compG
  split
  ·exact compG_asc l p hp.2 fun a h z hz=>ha a h z (List.mem_cons_of_mem _ hz)
  ·rename_i hne
   obtain ⟨i1,i2⟩:=compG_asc l (some b) hp.2 fun a h z hz=>by cases h;exact hp.1 z hz
   refine ⟨List.pairwise_cons.2 ⟨fun z hz=>i2 b rfl z hz,i1⟩,fun a h z hz=>?_⟩
   have hab:=ha a h b List.mem_cons_self
   have hne':a≠b:=fun e=>hne (by rw [← e];exact h)
   rcases List.mem_cons.1 hz with rfl | hz
   ·omega
   ·have:=i2 b rfl z hz;omega
theorem comp_sort (l:List Int):compI (sortI l)=sortU l:=by
 obtain ⟨h1,_⟩:=compG_asc (sortI l) none (Bm.sortI_sorted l) fun a h=>by cases h
 refine asc_ext h1 (sortU_asc l) fun z=>?_
 rw [sortU_mem,← (Bm.sortI_perm l).mem_iff]
 exact ⟨compG_mem _ _ z,fun h=>(compG_all _ none z h).resolve_right fun k=>by cases k⟩
theorem runs_step {s u:Slab} {T:List Slab} (h:u.col=s.col):outT (runs s (u :: T))=outT (runs ⟨s.x0,u.x1,s.col⟩ T):=by
 rw [runs,if_pos h]
theorem emit_nil {s:Slab} (h:s.col=[]):emit s=[]:=by unfold emit;rw [h];rfl
theorem runs_stop {s u:Slab} {T:List Slab} (h:u.col≠s.col):outT (runs s (u :: T))=emit s++outT (runs u T):=by
 rw [runs,if_neg h]
 split
 ·rename_i e;rw [emit_nil e];rfl
 ·rfl
theorem runs_end {s:Slab}:outT (runs s [])=emit s:=by
 rw [runs]
 split
 ·rename_i e;rw [emit_nil e];rfl
 ·show emit s++[]=_;rw [List.append_nil]
end Go.Proofs.YtplebjehcgcdeaaGreatDoor.Rg
