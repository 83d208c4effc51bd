/-
 Lists of elements of one cell: as trees, as rows that grow, and the first elements of such a row. Conditions: each lemma says its own.
-/
import Derived.Test.YtplebjehcgcdeaaGreatDoorQT16
import Derived.Test.YtplebjehcgcdeaaGreatDoorQT18
namespace Go.Proofs.YtplebjehcgcdeaaGreatDoor.Bm
open Go Go.RowKit
variable {h:Heap} {P:Program}
def cAt (b j:Nat):Value:=.pointer (some ⟨b,j,none⟩)
theorem obj_row {b:Nat} {t:TypeId} {c:List Value} (hob:h[b]?=some (.cells t c 0)) {j:Nat}:rowOf h ⟨b,j,none⟩=some c:=by
 unfold rowOf
 show (match h[b]? with | some (.cells _ c g)=>_ | _=>none)=_
 rw [hob];rfl
theorem obj_load {b j:Nat} {t:TypeId} {c:List Value} {v:Value} {sz:Option Nat} (hob:h[b]?=some (.cells t c 0)) (hc:c[j]?=some v):loadT ⟨some false,sz⟩ h (cAt b j)=some v:=by
 unfold cAt
 rw [load_one,obj_row hob,Option.bind_some,hc]
theorem obj_store {b j lo:Nat} {t:TypeId} {c:List Value} {v:Value} (hob:h[b]?=some (.cells t c 0)) (hj:j<c.length) (hlo:lo≤b) (hv:cellsOf v=some [v]):storeT (some 1) h lo v (cAt b j)=some (h.set b (.cells t (c.set j v) 0)):=by
 unfold cAt
 rw [store_ptr,hv,Option.bind_some,if_pos (show 1=[v].length from rfl)]
 unfold wrN
 show (match h[b]? with | some (.cells t c g)=>_ | _=>none)=_
 rw [hob]
 show (if _ then _ else none)=_
 rw [if_pos ⟨hlo,rfl,by simp,by simp;omega⟩]
 show some (h.set b (.cells t (splice c j [v]) 0))=_
 rw [splice_one hj]
theorem obj_all {b n:Nat} {t:TypeId} {c:List Value} (hob:h[b]?=some (.cells t c 0)) (hn:c.length=n):loadT ⟨some true,some n⟩ h (cAt b 0)=some (.agg ⟨c⟩):=by
 unfold cAt
 rw [load_agg,obj_row hob,Option.bind_some]
 show (if 0+n≤c.length then some (Value.agg ((c.drop 0).take n).toArray) else none)=_
 rw [if_pos (by omega),List.drop_zero,List.take_of_length_le (by omega)]
theorem obj_put {b n lo:Nat} {t:TypeId} {c d:List Value} (hob:h[b]?=some (.cells t c 0)) (hn:c.length=n) (hd:d.length=n) (h0:0<n) (hlo:lo≤b):storeT (some n) h lo (.agg ⟨d⟩) (cAt b 0)=some (h.set b (.cells t d 0)):=by
 unfold cAt
 rw [store_ptr,cellsOf_agg,Option.bind_some,if_pos hd.symm]
 unfold wrN
 show (match h[b]? with | some (.cells t c g)=>_ | _=>none)=_
 rw [hob]
 show (if _ then _ else none)=_
 rw [if_pos ⟨hlo,rfl,by show 0<d.length;omega,by show 0+d.length≤c.length;omega⟩]
 show some (h.set b (.cells t (splice c 0 d) 0))=_
 unfold splice
 rw [List.take_zero,List.nil_append,List.drop_of_length_le (by omega),List.append_nil]
end Go.Proofs.YtplebjehcgcdeaaGreatDoor.Bm
namespace Go.Proofs.YtplebjehcgcdeaaGreatDoor.Dw
open Go Go.Lib
abbrev itoL:=Bm.itoL
def inR (n:Int):Prop:=-9223372036854775808≤n∧n≤9223372036854775807
instance (n:Int):Decidable (inR n):=by unfold inR;infer_instance
theorem parse_snoc:∀ (l:List UInt8) (acc v:Nat) (c:UInt8),parseUint10 acc l=.ok v→48≤c.toNat→c.toNat≤57→v * 10+(c.toNat-48)<18446744073709551616→parseUint10 acc (l++[c])=.ok (v * 10+(c.toNat-48))
 | [],acc,v,c,h,h1,h2,h3=>by
  simp only [parseUint10] at h
  injection h with h
  subst h
  show parseUint10 acc (c :: [])=_
  simp only [parseUint10]
  rw [if_pos ⟨h1,h2⟩,if_neg (by omega),if_neg (by omega)]
 | x :: l,acc,v,c,h,h1,h2,h3=>by
  simp only [parseUint10] at h
  show parseUint10 acc (x :: (l++[c]))=_
  simp only [parseUint10]
  split at h
  ·rename_i hx
   rw [if_pos hx]
   split at h
   ·cases h
   ·rename_i ha
    rw [if_neg ha]
    split at h
    ·cases h
    ·rename_i hb
     rw [if_neg hb]
     exact parse_snoc l _ v c h h1 h2 h3
  ·cases h
theorem digit_nat {d:Nat} (h:d<10):(UInt8.ofNat (48+d)).toNat=48+d:=by
 rw [UInt8.toNat_ofNat'];omega
theorem parse_dec:∀ (u:Nat),u<18446744073709551616→parseUint10 0 (decDigits u)=.ok u
 | u,hu=>by
  rw [decDigits]
  by_cases h:u<10
  ·rw [dif_pos h]
   simp only [parseUint10]
   rw [digit_nat h,if_pos ⟨by omega,by omega⟩,if_neg (by omega),if_neg (by omega)]
   congr 1;omega
  ·rw [dif_neg h]
   have ih:=parse_dec (u / 10) (by omega)
   have hd:u % 10<10:=Nat.mod_lt _ (by decide)
   rw [parse_snoc _ _ _ _ ih (by rw [digit_nat hd];omega) (by rw [digit_nat hd];omega) (by rw [digit_nat hd];omega),digit_nat hd]
   congr 1;omega
theorem dec_digits:∀ (u:Nat) (c:UInt8),c∈decDigits u→48≤c.toNat∧c.toNat≤57
 | u,c,hc=>by
  rw [decDigits] at hc
  by_cases h:u<10
  ·rw [dif_pos h] at hc
   rw [List.mem_singleton] at hc
   subst hc
   rw [digit_nat h];omega
  ·rw [dif_neg h,List.mem_append] at hc
   rcases hc with hc | hc
   ·exact dec_digits (u / 10) c hc
   ·rw [List.mem_singleton] at hc
    subst hc
    rw [digit_nat (Nat.mod_lt _ (by decide))];omega
theorem dec_ne (u:Nat):decDigits u≠[]:=by
 rw [decDigits]
 split
 ·simp
 ·simp
theorem dec_len {u k:Nat} (h:u<10 ^ (k+1)):(decDigits u).length≤k+1:=by
 induction k generalizing u with
 | zero =>
  rw [decDigits,dif_pos (by simpa using h)];simp
 | succ k ih =>
  rw [decDigits]
  split
  ·simp
  ·have:u / 10<10 ^ (k+1):=by
    rw [Nat.pow_succ] at h
    exact Nat.div_lt_of_lt_mul (by rw [Nat.mul_comm];exact h)
   have:=ih this
   simp;omega
theorem ito_dec {n:Int} (h:inR n):itoL n=if n<0 then 45 :: decDigits n.natAbs else decDigits n.toNat:=by
 rw [show itoL n=Lib.itoa n from Bm.itoL_eq h.1 h.2]
 rfl
theorem atoi_ito {n:Int} (h:inR n):atoiAll (itoL n)=.ok n:=by
 rw [ito_dec h]
 obtain ⟨h1,h2⟩:=h
 by_cases hn:n<0
 ·rw [if_pos hn]
  have hp:parseMag (decDigits n.natAbs)=.ok n.natAbs:=by
   unfold parseMag
   rw [if_neg (dec_ne _),parse_dec _ (by omega)]
  simp only [atoiAll]
  have e45:(45:UInt8).toNat=45:=rfl
  rw [e45,if_pos (.inr rfl),hp]
  simp only
  rw [if_neg (by simp),if_neg (by omega),if_pos trivial]
  congr 1;omega
 ·rw [if_neg hn]
  have hp:parseMag (decDigits n.toNat)=.ok n.toNat:=by
   unfold parseMag
   rw [if_neg (dec_ne _),parse_dec _ (by omega)]
  cases hd:decDigits n.toNat with
  | nil=>exact absurd hd (dec_ne _)
  | cons c r =>
   have hc:=dec_digits n.toNat c (by rw [hd];simp)
   rw [hd] at hp
   simp only [atoiAll]
   rw [if_neg (by omega),hp]
   simp only
   rw [if_neg (by omega),if_neg (by omega),if_neg (by omega)]
   congr 1;omega
theorem atoi_inR {l:List UInt8} {n:Int} (h:atoiAll l=.ok n):inR n:=by
 unfold atoiAll at h
 split at h
 ·cases h
 ·rename_i c r
  simp only at h
  split at h
  ·cases h
  ·cases h
  ·split at h
   ·cases h
   ·split at h
    ·cases h
    ·rename_i u _ h1 h2
     injection h with h
     subst h
     unfold inR
     split <;> omega
def sepB (e:UInt8):Prop:=e.toNat≠45∧¬ (48≤e.toNat∧e.toNat≤57)
theorem ito_sep {n:Int} (h:inR n) {e:UInt8} (he:sepB e):e ∉ itoL n:=by
 rw [ito_dec h]
 intro hm
 split at hm
 ·rw [List.mem_cons] at hm
  rcases hm with rfl | hm
  ·exact he.1 rfl
  ·exact he.2 (dec_digits _ _ hm)
 ·exact he.2 (dec_digits _ _ hm)
theorem ito_len {n:Int} (h:inR n):(itoL n).length≤20:=by
 rw [ito_dec h]
 obtain ⟨h1,h2⟩:=h
 split
 ·have:=dec_len (u:=n.natAbs) (k:=18) (by omega)
  simp;omega
 ·have:=dec_len (u:=n.toNat) (k:=18) (by omega)
  omega
theorem index_app:∀ (a b:List UInt8) (e:UInt8),e ∉ a→indexByte (a++e :: b) e=a.length
 | [],b,e,_=>by simp [indexByte]
 | x :: a,b,e,h=>by
  simp only [List.mem_cons,not_or] at h
  have ih:=index_app a b e h.2
  show indexByte (x :: (a++e :: b)) e=_
  unfold indexByte
  rw [ih]
  have hx:(x == e)=false:=by simpa using fun q=>h.1 q.symm
  have hx':¬ x=e:=fun q=>h.1 q.symm
  first
   | (simp only [hx,Bool.false_eq_true,if_false];split <;> simp_all <;> omega)
   | (simp [hx'];omega)
theorem index_some:∀ (l:List UInt8) (e:UInt8),0≤indexByte l e→∃ i:Nat,indexByte l e=i∧l=l.take i++e :: l.drop (i+1)
 | [],e,h=>by simp [indexByte] at h
 | x :: l,e,h=>by
  by_cases hx:x=e
  ·subst hx
   exact ⟨0,by simp [indexByte],by simp⟩
  ·have hge:=indexByte_ge l e
   have e1:indexByte (x :: l) e=if indexByte l e = -1 then -1 else indexByte l e+1:=by
    conv=>lhs;unfold indexByte
    simp [hx]
   have h0:0≤indexByte l e:=by
    rw [e1] at h
    split at h <;> omega
   obtain ⟨i,h1,h2⟩:=index_some l e h0
   refine ⟨i+1,?_,?_⟩
   ·rw [e1,if_neg (by omega),h1];omega
   ·simp only [List.take_succ_cons,List.drop_succ_cons,List.cons_append]
    rw [← h2]
abbrev RS:=List UInt8 × Bool
def numP (e:UInt8) (least:Int) (l:List UInt8):Option (Int × List UInt8) :=
 if indexByte (l.take 21) e<0 then none else
 match atoiAll ((l.take 21).take (indexByte (l.take 21) e).toNat) with
 | .ok n=>if itoL n=(l.take 21).take (indexByte (l.take 21) e).toNat∧least≤n then some (n,l.drop ((indexByte (l.take 21) e).toNat+1)) else none
 | _=>none
def numS (e:UInt8) (least:Int) (s:RS):Int × RS:=match numP e least s.1 with
 | some r=>(r.1,(r.2,s.2))
 | none=>(0,([],true))
def closeS (c:UInt8) (s:RS):RS:=match s.1 with
 | x :: r=>if x=c then (r,s.2) else ([],true)
 | []=>([],true)
def textS (s:RS):List UInt8 × RS :=
 let a:=numS 58 0 s
 if (a.2.1.length:Int)<a.1 then ([],([],true)) else
 let s2:=closeS 44 (a.2.1.drop a.1.toNat,a.2.2)
 if s2.2 then ([],s2) else (a.2.1.take a.1.toNat,s2)
def minI:Int:=-9223372036854775808
def itemsL:Nat→RS→List Int→List Int × RS
 | 0,s,out=>(out,s)
 | n+1,s,out=>if s.2 then (out,s) else itemsL n (numS 59 minI s).2 (out++[(numS 59 minI s).1])
def numsS (s:RS):List Int × RS :=
 let a:=numS 91 0 s
 let b:=itemsL a.1.toNat a.2 []
 let s3:=closeS 93 b.2
 if s3.2 then ([],s3) else (b.1,s3)
theorem numP_some {e:UInt8} {least n:Int} {l r:List UInt8} (h:numP e least l=some (n,r)):l=itoL n++e :: r∧inR n∧least≤n:=by
 unfold numP at h
 split at h
 ·cases h
 ·rename_i h0
  obtain ⟨i,hi,hl⟩:=index_some (l.take 21) e (by omega)
  rw [hi] at h
  simp only [Int.toNat_natCast] at h
  split at h
  ·rename_i m hm
   split at h
   ·rename_i hc
    simp only [Option.some.injEq,Prod.mk.injEq] at h
    obtain ⟨rfl,rfl⟩:=h
    refine ⟨?_,atoi_inR hm,hc.2⟩
    rw [hc.1]
    have hlen:i<(l.take 21).length:=by
     have:=congrArg List.length hl
     simp only [List.length_append,List.length_cons,List.length_take,List.length_drop] at this
     simp only [List.length_take]
     omega
    have hi21:i<21:=by simp only [List.length_take] at hlen;omega
    have hil:i<l.length:=by simp only [List.length_take] at hlen;omega
    have e1:(l.take 21).take i=l.take i:=by rw [List.take_take,Nat.min_eq_left (by omega)]
    have e2:(l.take 21)[i]?=some e:=by
     rw [hl,List.getElem?_append_right (by simp only [List.length_take];omega)]
     simp only [List.length_take]
     rw [show i-min i (min 21 l.length)=0 by omega]
     rfl
    rw [List.getElem?_take,if_pos hi21] at e2
    rw [e1]
    have e3:l.drop i=e :: l.drop (i+1):=by
     rw [List.drop_eq_getElem_cons hil]
     congr 1
     rw [List.getElem?_eq_getElem hil] at e2
     exact Option.some.inj e2
    rw [← e3,List.take_append_drop]
   ·cases h
  ·cases h
theorem numP_ito {e:UInt8} {least n:Int} {r:List UInt8} (hn:inR n) (hl:least≤n) (he:sepB e):numP e least (itoL n++e :: r)=some (n,r):=by
 have h20:=ito_len hn
 have ht:(itoL n++e :: r).take 21=itoL n++e :: r.take (20-(itoL n).length):=by
  rw [List.take_append,List.take_of_length_le (by omega)]
  congr 1
  rw [show 21-(itoL n).length=(20-(itoL n).length)+1 by omega]
  rfl
 unfold numP
 rw [ht,index_app _ _ _ (ito_sep hn he),if_neg (by omega)]
 simp only [Int.toNat_natCast]
 have e1:(itoL n++e :: r.take (20-(itoL n).length)).take (itoL n).length=itoL n:=by simp
 rw [e1,atoi_ito hn]
 simp only
 rw [if_pos ⟨trivial,hl⟩]
 congr 2
 rw [List.drop_append,List.drop_of_length_le (by omega)]
 simp
theorem numS_ito {e:UInt8} {least n:Int} {r:List UInt8} (b:Bool) (hn:inR n) (hl:least≤n) (he:sepB e):numS e least (itoL n++e :: r,b)=(n,(r,b)):=by
 unfold numS
 simp only
 rw [numP_ito hn hl he]
theorem numS_good {e:UInt8} {least:Int} {s:RS} (h:(numS e least s).2.2=false):s.2=false∧s.1=itoL (numS e least s).1++e :: (numS e least s).2.1∧inR (numS e least s).1∧least≤(numS e least s).1:=by
 unfold numS at h ⊢
 cases hp:numP e least s.1 with
 | none=>rw [hp] at h;cases h
 | some r =>
  rw [hp] at h
  obtain ⟨n,r⟩:=r
  exact ⟨h,numP_some hp⟩
theorem numS_ge {e:UInt8} {least:Int} {s:RS} (hl:least≤0):least≤(numS e least s).1:=by
 unfold numS
 cases hp:numP e least s.1 with
 | none=>exact hl
 | some r=>obtain ⟨n,r⟩:=r;exact (numP_some hp).2.2
theorem numS_inR {e:UInt8} {least:Int} {s:RS}:inR (numS e least s).1:=by
 unfold numS
 cases hp:numP e least s.1 with
 | none=>exact (⟨by decide,by decide⟩:inR 0)
 | some r=>obtain ⟨n,r⟩:=r;exact (numP_some hp).2.1
theorem closeS_good {c:UInt8} {s:RS} (h:(closeS c s).2=false):s.2=false∧s.1=c :: (closeS c s).1:=by
 unfold closeS at h ⊢
 cases hs:s.1 with
 | nil=>rw [hs] at h;cases h
 | cons x r =>
  rw [hs] at h
  simp only at h ⊢
  by_cases hx:x=c
  ·rw [if_pos hx] at h ⊢
   subst hx
   exact ⟨h,rfl⟩
  ·rw [if_neg hx] at h;cases h
theorem closeS_eq (c:UInt8) (r:List UInt8) (b:Bool):closeS c (c :: r,b)=(r,b):=by unfold closeS;simp
end Go.Proofs.YtplebjehcgcdeaaGreatDoor.Dw
namespace Go.Proofs.YtplebjehcgcdeaaGreatDoor.Dw
open Go Go.Lib
theorem sep59:sepB 59:=by unfold sepB;decide
theorem sep58:sepB 58:=by unfold sepB;decide
theorem sep91:sepB 91:=by unfold sepB;decide
def encI (n:Int):List UInt8:=itoL n++[59]
def encN (n:Int):List UInt8:=if n<0 then [] else encI n
def encT (t:List UInt8):List UInt8:=itoL t.length++58 :: t++[44]
def encL (l:List Int):List UInt8:=itoL l.length++91 :: l.flatMap encI++[93]
theorem numS_encI {least n:Int} {r:List UInt8} (b:Bool) (hn:inR n) (hl:least≤n):numS 59 least (encI n++r,b)=(n,(r,b)):=by
 have:=numS_ito (e:=59) (r:=r) b hn hl sep59
 unfold encI
 rw [List.append_assoc]
 exact this
theorem textS_enc {t r:List UInt8} (b:Bool) (ht:t.length≤1000000):textS (encT t++r,b)=(if b then [] else t,(r,b)):=by
 have hn:inR (t.length:Int):=⟨by omega,by omega⟩
 have e1:encT t++r=itoL t.length++58 :: (t++44 :: r):=by unfold encT;simp
 unfold textS
 rw [e1,numS_ito b hn (Int.natCast_nonneg _) sep58]
 simp only [Int.toNat_natCast]
 rw [if_neg (by simp only [List.length_append,List.length_cons];omega)]
 have e2:(t++44 :: r).drop t.length=44 :: r:=by simp
 have e3:(t++44 :: r).take t.length=t:=by simp
 rw [e2,e3,closeS_eq]
 cases b <;> rfl
theorem textS_good {s:RS} (h:(textS s).2.2=false):s.2=false∧s.1=encT (textS s).1++(textS s).2.1:=by
 unfold textS at h ⊢
 simp only at h ⊢
 split at h
 ·cases h
 ·rename_i hlt
  rw [if_neg hlt]
  split at h
  ·rename_i hb;rw [hb] at h;cases h
  ·rename_i hb
   rw [if_neg hb]
   obtain ⟨h1,h2⟩:=closeS_good h
   simp only at h1 h2
   obtain ⟨h3,h4,h5,h6⟩:=numS_good h1
   refine ⟨h3,?_⟩
   generalize numS 58 0 s=a at *
   have hlen:(a.2.1.take a.1.toNat).length=a.1.toNat:=by rw [List.length_take];omega
   rw [h4]
   unfold encT
   rw [hlen,Int.toNat_of_nonneg h6]
   simp only [List.append_assoc,List.cons_append,List.nil_append]
   rw [← h2,List.take_append_drop]
theorem items_enc:∀ (l out:List Int) (r:List UInt8),(∀ n∈l,inR n)→itemsL l.length (l.flatMap encI++r,false) out=(out++l,(r,false))
 | [],out,r,_=>by simp [itemsL]
 | n :: l,out,r,h=>by
  have hn:=h n (by simp)
  show itemsL (l.length+1) _ _=_
  rw [List.flatMap_cons,List.append_assoc]
  unfold itemsL
  have e:numS 59 minI (encI n++(l.flatMap encI++r),false)=(n,(l.flatMap encI++r,false)):=numS_encI false hn hn.1
  rw [if_neg (by simp),e]
  simp only
  rw [items_enc l _ r fun m hm=>h m (List.mem_cons_of_mem _ hm)]
  simp
theorem numsS_enc {l:List Int} {r:List UInt8} (hl:l.length≤1000000) (h:∀ n∈l,inR n):numsS (encL l++r,false)=(l,(r,false)):=by
 have hn:inR (l.length:Int):=⟨by omega,by omega⟩
 have e1:encL l++r=itoL l.length++91 :: (l.flatMap encI++93 :: r):=by unfold encL;simp
 unfold numsS
 rw [e1,numS_ito false hn (Int.natCast_nonneg _) sep91]
 simp only [Int.toNat_natCast]
 rw [items_enc l [] _ h]
 simp only
 rw [closeS_eq]
 rfl
theorem items_bad:∀ (n:Nat) (s:RS) (out:List Int),s.2=true→(itemsL n s out).2.2=true
 | 0,s,out,h=>h
 | n+1,s,out,h=>by unfold itemsL;rw [if_pos h];exact h
theorem items_good:∀ (n:Nat) (s:RS) (out:List Int),(itemsL n s out).2.2=false→s.2=false∧∃ l,(itemsL n s out).1=out++l∧l.length=n∧(∀ m∈l,inR m)∧s.1=l.flatMap encI++(itemsL n s out).2.1
 | 0,s,out,h=>⟨h,[],by simp [itemsL],rfl,by simp,by simp [itemsL]⟩
 | n+1,s,out,h=>by
  have hs:s.2=false:=by
   cases hb:s.2 with
   | false=>rfl
   | true=>rw [items_bad _ _ _ hb] at h;cases h
  refine ⟨hs,?_⟩
  unfold itemsL at h ⊢
  rw [if_neg (by rw [hs];simp)] at h ⊢
  obtain ⟨h1,l,h2,h3,h4,h5⟩:=items_good n _ _ h
  obtain ⟨_,h6,h7,_⟩:=numS_good h1
  refine ⟨(numS 59 minI s).1 :: l,?_,by simp [h3],?_,?_⟩
  ·rw [h2];simp
  ·intro m hm
   rcases List.mem_cons.1 hm with rfl | hm
   ·exact h7
   ·exact h4 m hm
  ·rw [h6,h5]
   simp [encI]
theorem numsS_good {s:RS} (h:(numsS s).2.2=false):s.2=false∧s.1=encL (numsS s).1++(numsS s).2.1∧∀ n∈(numsS s).1,inR n:=by
 unfold numsS at h ⊢
 simp only at h ⊢
 split at h
 ·rename_i hb;rw [hb] at h;cases h
 ·rename_i hb
  rw [if_neg hb]
  obtain ⟨h1,h2⟩:=closeS_good h
  obtain ⟨h3,l,h4,h5,h6,h7⟩:=items_good _ _ _ h1
  obtain ⟨h8,h9,h10,h11⟩:=numS_good h3
  refine ⟨h8,?_,?_⟩
  ·rw [h9]
   have e:((itemsL (numS 91 0 s).1.toNat (numS 91 0 s).2 []).1.length:Int)=(numS 91 0 s).1:=by
    rw [h4,List.nil_append,h5,Int.toNat_of_nonneg h11]
   unfold encL
   rw [e,h7,h2,h4]
   simp
  ·rw [h4];simpa using h6
structure Vol where
 x0:Int
 y0:Int
 x1:Int
 y1:Int
 z0:Int
 z1:Int
 use:Int
 units:Int
 extra:Bool
 deriving DecidableEq
abbrev Ent:=List UInt8 × Int
structure Phs where
 vols:List Vol
 gives:List Ent
 deriving DecidableEq
structure Drw where
 lot:Int
 phs:List Phs
 deriving DecidableEq
def Vol.nums (v:Vol):List Int:=[v.x0,v.y0,v.x1,v.y1,v.z0,v.z1,v.use,v.units,if v.extra then 1 else 0]
def volOf (l:List Int):Vol:=⟨l.getD 0 0,l.getD 1 0,l.getD 2 0,l.getD 3 0,l.getD 4 0,l.getD 5 0,l.getD 6 0,l.getD 7 0,decide (l.getD 8 0=1)⟩
def okNums (l:List Int):Bool:=decide (l.length=9) && (decide (l.getD 8 0=0) || decide (l.getD 8 0=1))
theorem volOf_nums (v:Vol):volOf v.nums=v:=by
 obtain ⟨a,b,c,d,e,f,g,h,x⟩:=v
 cases x <;> rfl
theorem okNums_nums (v:Vol):okNums v.nums=true:=by
 obtain ⟨a,b,c,d,e,f,g,h,x⟩:=v
 cases x <;> rfl
theorem nums_volOf {l:List Int} (h:okNums l=true):(volOf l).nums=l:=by
 unfold okNums at h
 rw [Bool.and_eq_true,decide_eq_true_eq] at h
 obtain ⟨h1,h2⟩:=h
 match l,h1 with
 | [a,b,c,d,e,f,g,i,x],_ =>
  simp only [Bool.or_eq_true,decide_eq_true_eq] at h2
  have h2:x=0∨x=1:=by simpa using h2
  rcases h2 with rfl | rfl <;> rfl
def Vol.inR (v:Vol):Prop:=∀ n∈v.nums,Dw.inR n
def encV (v:Vol):List UInt8:=encL v.nums
def encE (e:Ent):List UInt8:=encT e.1++encN e.2
def encP (p:Phs):List UInt8:=encN p.vols.length++p.vols.flatMap encV++(encN p.gives.length++p.gives.flatMap encE)
def enc (d:Drw):List UInt8:=encN d.lot++encN d.phs.length++d.phs.flatMap encP
def volsL:Nat→RS→List Vol→List Vol × Bool × RS
 | 0,s,out=>(out,true,s)
 | n+1,s,out=>if okNums (numsS s).1 then volsL n (numsS s).2 (out++[volOf (numsS s).1]) else (out,false,(numsS s).2)
def givesL:Nat→RS→List Ent→List Ent × RS
 | 0,s,out=>(out,s)
 | n+1,s,out=>givesL n (numS 59 0 (textS s).2).2 (out++[((textS s).1,(numS 59 0 (textS s).2).1)])
def phaseS (s:RS):Phs × Bool × RS :=
 let a:=numS 59 0 s
 if 40<a.1 then (⟨[],[]⟩,false,a.2) else
 let v:=volsL a.1.toNat a.2 []
 if v.2.1 then
  let b:=numS 59 0 v.2.2
  if 30<b.1 then (⟨v.1,[]⟩,false,b.2) else
  let g:=givesL b.1.toNat b.2 []
  (⟨v.1,g.1⟩,true,g.2)
 else (⟨v.1,[]⟩,false,v.2.2)
def phsL:Nat→RS→List Phs→Option (List Phs × RS)
 | 0,s,out=>some (out,s)
 | n+1,s,out=>if (phaseS s).2.1 then phsL n (phaseS s).2.2 (out++[(phaseS s).1]) else none
def readF (form:Drw→Bool) (l:List UInt8):Option Drw :=
 let a:=numS 59 0 (l,false)
 let b:=numS 59 0 a.2
 if 8<b.1 then none else
 match phsL b.1.toNat b.2 [] with
 | none=>none
 | some r=>if (!r.2.2 && decide (r.2.1=[])) && form ⟨a.1,r.1⟩ then some ⟨a.1,r.1⟩ else none
structure Fit (d:Drw):Prop where
 lot:0≤d.lot∧inR d.lot
 phs:d.phs.length≤8
 vols:∀ p∈d.phs,p.vols.length≤40∧∀ v∈p.vols,v.inR
 gives:∀ p∈d.phs,p.gives.length≤30∧∀ e∈p.gives,e.1.length≤1000000∧0≤e.2∧inR e.2
theorem encN_pos {n:Int} (h:0≤n):encN n=encI n:=if_neg (by omega)
theorem numS_encN {n:Int} {r:List UInt8} (b:Bool) (h0:0≤n) (hn:inR n):numS 59 0 (encN n++r,b)=(n,(r,b)):=by
 rw [encN_pos h0];exact numS_encI b hn h0
theorem vols_enc:∀ (vs out:List Vol) (r:List UInt8),(∀ v∈vs,v.inR)→volsL vs.length (vs.flatMap encV++r,false) out=(out++vs,true,(r,false))
 | [],out,r,_=>by simp [volsL]
 | v :: vs,out,r,h=>by
  show volsL (vs.length+1) _ _=_
  rw [List.flatMap_cons,List.append_assoc]
  unfold volsL
  have e:numsS (encV v++(vs.flatMap encV++r),false)=(v.nums,(vs.flatMap encV++r,false)):=numsS_enc (by unfold Vol.nums;simp) (h v (by simp))
  rw [e]
  simp only
  rw [if_pos (okNums_nums v),volOf_nums,vols_enc vs _ r fun m hm=>h m (List.mem_cons_of_mem _ hm)]
  simp
theorem gives_enc:∀ (es out:List Ent) (r:List UInt8),(∀ e∈es,e.1.length≤1000000∧0≤e.2∧inR e.2)→givesL es.length (es.flatMap encE++r,false) out=(out++es,(r,false))
 | [],out,r,_=>by simp [givesL]
 | e :: es,out,r,h=>by
  obtain ⟨h1,h2,h3⟩:=h e (by simp)
  show givesL (es.length+1) _ _=_
  rw [List.flatMap_cons,List.append_assoc]
  unfold givesL
  have e1:textS (encE e++(es.flatMap encE++r),false)=(e.1,(encN e.2++(es.flatMap encE++r),false)):=by
   unfold encE
   rw [List.append_assoc,textS_enc false h1]
   rfl
  rw [e1]
  simp only
  rw [numS_encN false h2 h3]
  simp only
  rw [gives_enc es _ r fun m hm=>h m (List.mem_cons_of_mem _ hm)]
  simp
theorem phase_enc {p:Phs} {r:List UInt8} (hv:p.vols.length≤40∧∀ v∈p.vols,v.inR) (hg:p.gives.length≤30∧∀ e∈p.gives,e.1.length≤1000000∧0≤e.2∧inR e.2):phaseS (encP p++r,false)=(p,true,(r,false)):=by
 have n1:inR (p.vols.length:Int):=⟨by omega,by omega⟩
 have n2:inR (p.gives.length:Int):=⟨by omega,by omega⟩
 unfold phaseS encP
 simp only [List.append_assoc]
 rw [numS_encN false (Int.natCast_nonneg _) n1]
 simp only [Int.toNat_natCast]
 rw [if_neg (by omega),vols_enc _ _ _ hv.2]
 simp only [if_true]
 rw [numS_encN false (Int.natCast_nonneg _) n2]
 simp only [Int.toNat_natCast]
 rw [if_neg (by omega),gives_enc _ _ _ hg.2]
 simp
theorem phs_enc:∀ (ps out:List Phs) (r:List UInt8),(∀ p∈ps,p.vols.length≤40∧∀ v∈p.vols,v.inR)→(∀ p∈ps,p.gives.length≤30∧∀ e∈p.gives,e.1.length≤1000000∧0≤e.2∧inR e.2)→phsL ps.length (ps.flatMap encP++r,false) out=some (out++ps,(r,false))
 | [],out,r,_,_=>by simp [phsL]
 | p :: ps,out,r,hv,hg=>by
  show phsL (ps.length+1) _ _=_
  rw [List.flatMap_cons,List.append_assoc]
  unfold phsL
  rw [phase_enc (hv p (by simp)) (hg p (by simp))]
  simp only [if_true]
  rw [phs_enc ps _ r (fun m hm=>hv m (List.mem_cons_of_mem _ hm)) fun m hm=>hg m (List.mem_cons_of_mem _ hm)]
  simp
theorem head_enc {d:Drw} (h:Fit d) (r:List UInt8):numS 59 0 (enc d++r,false)=(d.lot,(encN d.phs.length++d.phs.flatMap encP++r,false))∧numS 59 0 (encN d.phs.length++d.phs.flatMap encP++r,false)=((d.phs.length:Int),(d.phs.flatMap encP++r,false)) ∧
  phsL d.phs.length (d.phs.flatMap encP++r,false) []=some (d.phs,(r,false)):=by
 have n1:inR (d.phs.length:Int):=⟨by omega,by have:=h.phs;omega⟩
 refine ⟨?_,?_,by rw [phs_enc _ _ _ h.vols h.gives];rfl⟩
 ·unfold enc
  rw [List.append_assoc,List.append_assoc,numS_encN false h.lot.1 h.lot.2,List.append_assoc]
 ·rw [List.append_assoc,numS_encN false (Int.natCast_nonneg _) n1]
theorem read_enc {form:Drw→Bool} {d:Drw} (h:Fit d) (hf:form d=true):readF form (enc d)=some d:=by
 obtain ⟨h1,h2,h3⟩:=head_enc h []
 rw [List.append_nil] at h1
 unfold readF
 rw [h1]
 simp only
 rw [h2]
 simp only [Int.toNat_natCast]
 have:=h.phs
 rw [if_neg (by omega),h3]
 obtain ⟨lot,phs⟩:=d
 simp [hf]
theorem read_more {form:Drw→Bool} {d:Drw} (h:Fit d) {r:List UInt8} (hr:r≠[]):readF form (enc d++r)=none:=by
 obtain ⟨h1,h2,h3⟩:=head_enc h r
 unfold readF
 rw [h1]
 simp only
 rw [h2]
 simp only [Int.toNat_natCast]
 have:=h.phs
 rw [if_neg (by omega),h3]
 simp [hr]
theorem vols_good:∀ (n:Nat) (s:RS) (out:List Vol),(volsL n s out).2.1=true→(volsL n s out).2.2.2=false→s.2=false∧∃ vs,(volsL n s out).1=out++vs∧vs.length=n∧(∀ v∈vs,v.inR)∧s.1=vs.flatMap encV++(volsL n s out).2.2.1
 | 0,s,out,_,h=>⟨h,[],by simp [volsL],rfl,by simp,by simp [volsL]⟩
 | n+1,s,out,h,hb=>by
  unfold volsL at h hb ⊢
  by_cases hc:okNums (numsS s).1=true
  ·rw [if_pos hc] at h hb ⊢
   obtain ⟨h1,vs,h2,h3,h4,h5⟩:=vols_good n _ _ h hb
   obtain ⟨h6,h7,h8⟩:=numsS_good h1
   refine ⟨h6,volOf (numsS s).1 :: vs,by rw [h2];simp,by simp [h3],?_,?_⟩
   ·intro v hv
    rcases List.mem_cons.1 hv with rfl | hv
    ·unfold Vol.inR;rw [nums_volOf hc];exact h8
    ·exact h4 v hv
   ·rw [h7,h5,List.flatMap_cons]
    unfold encV
    rw [nums_volOf hc,List.append_assoc]
  ·rw [if_neg hc] at h;cases h
theorem gives_good:∀ (n:Nat) (s:RS) (out:List Ent),(givesL n s out).2.2=false→s.2=false∧∃ es,(givesL n s out).1=out++es∧es.length=n∧s.1=es.flatMap encE++(givesL n s out).2.1
 | 0,s,out,h=>⟨h,[],by simp [givesL],rfl,by simp [givesL]⟩
 | n+1,s,out,h=>by
  unfold givesL at h ⊢
  obtain ⟨h1,es,h2,h3,h4⟩:=gives_good n _ _ h
  obtain ⟨h5,h6,_,h7⟩:=numS_good h1
  obtain ⟨h8,h9⟩:=textS_good h5
  refine ⟨h8,((textS s).1,(numS 59 0 (textS s).2).1) :: es,by rw [h2];simp,by simp [h3],?_⟩
  conv=>lhs;rw [h9]
  rw [h6,h4,List.flatMap_cons]
  unfold encE
  simp only
  rw [encN_pos h7]
  unfold encI
  simp
theorem phase_good {s:RS} (h:(phaseS s).2.1=true) (hb:(phaseS s).2.2.2=false):s.2=false∧s.1=encP (phaseS s).1++(phaseS s).2.2.1:=by
 unfold phaseS at h hb ⊢
 simp only at h hb ⊢
 by_cases c1:40<(numS 59 0 s).1
 ·rw [if_pos c1] at h;cases h
 rw [if_neg c1] at h hb ⊢
 by_cases c2:(volsL (numS 59 0 s).1.toNat (numS 59 0 s).2 []).2.1=true
 case neg=>rw [if_neg c2] at h;cases h
 rw [if_pos c2] at h hb ⊢
 by_cases c3:30<(numS 59 0 (volsL (numS 59 0 s).1.toNat (numS 59 0 s).2 []).2.2).1
 ·rw [if_pos c3] at h;cases h
 rw [if_neg c3] at h hb ⊢
 obtain ⟨g1,es,g2,g3,g4⟩:=gives_good _ _ _ hb
 obtain ⟨n1,n2,_,n3⟩:=numS_good g1
 obtain ⟨v1,vs,v2,v3,_,v4⟩:=vols_good _ _ _ c2 n1
 obtain ⟨m1,m2,_,m3⟩:=numS_good v1
 refine ⟨m1,?_⟩
 unfold encP
 simp only
 rw [m2,v4,n2,g4,v2,g2]
 simp only [List.nil_append]
 rw [v3,g3,Int.toNat_of_nonneg m3,Int.toNat_of_nonneg n3,encN_pos m3,encN_pos n3]
 unfold encI
 simp
theorem phs_good:∀ (n:Nat) (s:RS) (out:List Phs) (r:List Phs × RS),phsL n s out=some r→r.2.2=false→s.2=false∧∃ ps,r.1=out++ps∧ps.length=n∧s.1=ps.flatMap encP++r.2.1
 | 0,s,out,r,h,hb=>by
  cases h
  exact ⟨hb,[],by simp,rfl,by simp⟩
 | n+1,s,out,r,h,hb=>by
  unfold phsL at h
  split at h
  ·rename_i hc
   obtain ⟨h1,ps,h2,h3,h4⟩:=phs_good n _ _ r h hb
   obtain ⟨h5,h6⟩:=phase_good hc h1
   refine ⟨h5,(phaseS s).1 :: ps,by rw [h2];simp,by simp [h3],?_⟩
   conv=>lhs;rw [h6]
   rw [h4,List.flatMap_cons,List.append_assoc]
  ·cases h
theorem read_good {form:Drw→Bool} {l:List UInt8} {d:Drw} (h:readF form l=some d):form d=true∧l=enc d:=by
 unfold readF at h
 simp only at h
 split at h
 ·cases h
 ·split at h
  ·cases h
  ·rename_i r hp
   split at h
   ·rename_i hc
    cases h
    simp only [Bool.and_eq_true,Bool.not_eq_true',decide_eq_true_eq] at hc
    obtain ⟨⟨c1,c2⟩,c3⟩:=hc
    refine ⟨c3,?_⟩
    obtain ⟨h1,ps,h2,h3,h4⟩:=phs_good _ _ _ r hp c1
    obtain ⟨h5,h6,_,h7⟩:=numS_good h1
    obtain ⟨h8,h9,_,h10⟩:=numS_good h5
    refine h9.trans ?_
    rw [h6,h4,c2,h2]
    unfold enc
    simp only [List.nil_append,List.append_nil]
    rw [h3,Int.toNat_of_nonneg h7,encN_pos h7,encN_pos h10]
    unfold encI
    simp
   ·cases h
theorem enc_inj {a b:Drw} (ha:Fit a) (hb:Fit b) (h:enc a=enc b):a=b:=by
 have h1:=read_enc (form:=fun _=>true) ha rfl
 rw [h,read_enc (form:=fun _=>true) hb rfl] at h1
 injection h1 with h1
 exact h1.symm
theorem enc_prefix {form:Drw→Bool} {d:Drw} (hd:Fit d) (hf:∀ x,form x=true→Fit x) {l r:List UInt8} (hr:r≠[]) (h:enc d=l++r):readF form l=none:=by
 cases hq:readF form l with
 | none=>rfl
 | some x =>
  obtain ⟨h1,rfl⟩:=read_good hq
  have h2:=read_more (form:=fun _=>true) (hf x h1) hr
  rw [← h,read_enc (form:=fun _=>true) hd rfl] at h2
  cases h2
end Go.Proofs.YtplebjehcgcdeaaGreatDoor.Dw
namespace Go.Proofs.YtplebjehcgcdeaaGreatDoor.Dw
open Go Go.Lib
def numsR (s:RS):List Int × RS :=
 let b:=itemsL (numS 91 0 s).1.toNat (numS 91 0 s).2 []
 if b.2.2 then ([],b.2) else if (closeS 93 b.2).2 then ([],closeS 93 b.2) else (b.1,closeS 93 b.2)
def vol0:Vol:=⟨0,0,0,0,0,0,0,0,false⟩
def volR (s:RS):Vol × RS :=
 let a:=numsR s
 if a.1.length≠9 then (vol0,(a.2.1,true)) else (volOf a.1,(a.2.1,a.2.2 || !okNums a.1))
end Go.Proofs.YtplebjehcgcdeaaGreatDoor.Dw
namespace Go.Proofs.YtplebjehcgcdeaaGreatDoor.Bm
open Go Go.RowKit
variable {P:Program} {h:Heap}
theorem str_inj {a b:List UInt8}:((⟨⟨a⟩⟩:ByteArray)=⟨⟨b⟩⟩)↔a=b:=by
 constructor
 ·intro h;injection h with h;injection h
 ·rintro rfl;rfl
theorem str_size {l:List UInt8}:ByteArray.size ⟨⟨l⟩⟩=l.length:=rfl
theorem str_app {a b:List UInt8}:(⟨⟨a⟩⟩:ByteArray) ++ ⟨⟨b⟩⟩=⟨⟨a++b⟩⟩:=by
 apply ByteArray.ext
 rw [ByteArray.data_append]
 simp
theorem str_cut {l:List UInt8} {a b:Nat}:ByteArray.extract ⟨⟨l⟩⟩ a b=⟨⟨(l.take b).drop a⟩⟩:=by
 apply ByteArray.ext
 rw [ByteArray.data_extract]
 simp [List.drop_take]
theorem str_get {l:List UInt8} {i:Nat}:(⟨⟨l⟩⟩:ByteArray)[i]?=l[i]?:=by
 by_cases hi:i<l.length
 ·rw [getElem?_pos (⟨⟨l⟩⟩:ByteArray) i hi,List.getElem?_eq_getElem hi];rfl
 ·rw [getElem?_neg (⟨⟨l⟩⟩:ByteArray) i hi,List.getElem?_eq_none (by omega)]
theorem sv_idx {l:List UInt8} {i:Nat} {k:IntKind} (hi:i<l.length):indexT .str (.string ⟨⟨l⟩⟩) (.int k (i:Int))=some (.int .u8 l[i].toNat):=by
 unfold indexT
 simp only
 rw [if_pos (Int.natCast_nonneg _),Int.toNat_natCast,str_get,List.getElem?_eq_getElem hi];rfl
theorem sv_head {c:UInt8} {l:List UInt8} {k:IntKind}:indexT .str (.string ⟨⟨c :: l⟩⟩) (.int k 0)=some (.int .u8 c.toNat):=sv_idx (i:=0) (by simp)
theorem sv_take {l:List UInt8} {u:Nat} {k:IntKind} (hu:u≤l.length):sliceT .str h (.string ⟨⟨l⟩⟩) none (some (.int k (u:Int))) none=some (.string ⟨⟨l.take u⟩⟩):=by
 unfold sliceT bound
 simp only [str_size]
 rw [if_neg (by simp),if_pos ⟨by omega,by omega⟩]
 simp only [Option.bind_some,Option.map_some,Int.toNat_natCast,str_cut,List.drop_zero]
theorem sv_drop {l:List UInt8} {u:Nat} {k:IntKind} (hu:u≤l.length):sliceT .str h (.string ⟨⟨l⟩⟩) (some (.int k (u:Int))) none none=some (.string ⟨⟨l.drop u⟩⟩):=by
 unfold sliceT bound
 simp only [str_size,Option.bind_some]
 rw [if_neg (by simp),if_pos ⟨by omega,by omega⟩]
 simp only [Option.map_some,Int.toNat_natCast,str_cut,List.take_length]
theorem sv_add {t:TypeId} {a b:List UInt8} (hl:a.length+b.length≤1000000000):aBin P .add t (.string ⟨⟨a⟩⟩) (.string ⟨⟨b⟩⟩)=some (.string ⟨⟨a++b⟩⟩):=by
 have h1:¬ ((a.length+b.length:Nat):Int) > 9223372036854775807:=by omega
 simp only [aBin,aStringOp,str_size,str_app]
 show (if ((a.length+b.length:Nat):Int) > 9223372036854775807 then none else _)=_
 rw [if_neg h1]
def rdC (t:TypeId) (s:Dw.RS):AObj:=.cells t [.string ⟨⟨s.1⟩⟩,.bool s.2] 0
abbrev rdP (b:Nat):Value:=.pointer (some ⟨b,0,none⟩)
section
variable {t:TypeId} {b lo:Nat} {s:Dw.RS} (hob:h[b]?=some (rdC t s))
include hob
theorem rd_rest {sz:Option Nat}:loadT ⟨some false,sz⟩ h (.pointer (some ⟨b,0,none⟩))=some (.string ⟨⟨s.1⟩⟩):=obj_load hob rfl
theorem rd_bad {sz:Option Nat}:loadT ⟨some false,sz⟩ h (.pointer (some ⟨b,1,none⟩))=some (.bool s.2):=obj_load hob rfl
theorem rd_set (hlo:lo≤b) (l:List UInt8):storeT (some 1) h lo (.string ⟨⟨l⟩⟩) (.pointer (some ⟨b,0,none⟩))=some (h.set b (rdC t (l,s.2))):=obj_store hob (by simp) hlo rfl
theorem rd_mark (hlo:lo≤b) (x:Bool):storeT (some 1) h lo (.bool x) (.pointer (some ⟨b,1,none⟩))=some (h.set b (rdC t (s.1,x))):=obj_store hob (by simp) hlo rfl
end
theorem rd_get {t:TypeId} {b:Nat} (s:Dw.RS) (hb:b<h.length):(h.set b (rdC t s))[b]?=some (rdC t s):=by rw [List.getElem?_set_self hb]
theorem ob_lt {b:Nat} {o:AObj} (hob:h[b]?=some o):b<h.length:=by
 rcases Nat.lt_or_ge b h.length with q | q
 ·exact q
 ·rw [List.getElem?_eq_none q] at hob;cases hob
end Go.Proofs.YtplebjehcgcdeaaGreatDoor.Bm
namespace Go.Proofs.YtplebjehcgcdeaaGreatDoor.Bm
open Go Go.RowKit
open Dw (RS numP numS closeS textS itemsL numsS minI)
theorem ret3t {f:FuncId} (hm:E.mode f=3) {C:Callee} {lo:Nat} {h:Heap} {args:List Value}:retCall E C lo false f args h=(C f args h lo).map fun r=>(r.1,trim h.length [r.1] r.2):=by
 unfold retCall;rw [hm];rfl
abbrev tW:TypeId:=183
theorem fail_spec {h:Heap} {b lo:Nat} {s:RS} (hob:h[b]?=some (rdC tW s)) (hlo:lo≤b):retCall E (L E) lo false 184 [rdP b] h=some (.tuple #[],h.set b (rdC tW ([],true))):=by
 have s1:=rd_set hob hlo []
 have s2:=rd_mark (rd_get (h:=h) (t:=tW) ([],s.2) (ob_lt hob)) hlo true
 rw [List.set_set] at s2
 have key:L E 184 [rdP b] h lo=some (.tuple #[],h.set b (rdC tW ([],true))):=by
  rw [L_fn F184 rfl]
  simp -implicitDefEqProofs [r184,p184,rop_nilCheck,s1,s2]
 rw [ret3t m184,key,Option.map_some,trim_le (by rw [List.length_set];exact Nat.le_refl _)]
theorem mIB:E.mode 183=0:=by kernel_rfl
theorem mIt:E.mode 119=0:=by kernel_rfl
theorem mAt:E.mode 185=2:=by kernel_rfl
theorem ixb_pure (l:List UInt8) (e:UInt8):pureCall E.P (L E) 183 [.string ⟨⟨l⟩⟩,.int .u8 e.toNat]=some (.int .i64 (Lib.indexByte l e)):=by
 unfold pureCall
 rw [L_orc (g:=scaG ixbF) rfl]
 have e1:((e.toNat:Int).toNat).toUInt8=e:=by rw [Int.toNat_natCast];exact UInt8.ofNat_toNat
 show some (Value.int .i64 (Lib.indexByte l ((e.toNat:Int).toNat).toUInt8))=_
 rw [e1]
theorem ito_pure {n:Int} (hn:Dw.inR n):pureCall E.P (L E) 119 [.int .i64 n]=some (.string ⟨⟨Bm.itoL n⟩⟩):=by
 unfold pureCall
 rw [L_orc (g:=scaG itoaF) rfl]
 have e1:itoaF [.int .i64 n]=some (.string ⟨⟨Bm.itoL n⟩⟩):=if_pos hn
 show ((itoaF [.int .i64 n]).map (·,_)).bind _=_
 rw [e1];rfl
theorem ato_call {l:List UInt8} (hl:l.length≤1000000) {h:Heap} {lo:Nat}:retCall E (L E) lo false 185 [.string ⟨⟨l⟩⟩] h=some (match Lib.atoiAll l with
  | .ok v=>.tuple ⟨[.int .i64 v,.nilIface]⟩
  | .«syntax»=>.tuple ⟨[.int .i64 0,.iface 276 undef]⟩
  | .range=>.tuple ⟨[.int .i64 (Lib.atoiSat l),.iface 276 undef]⟩,h):=by
 rw [ret2 mAt,L_orc (g:=scaG (atoiF 276)) rfl]
 have e1:atoiF 276 [.string ⟨⟨l⟩⟩]=some (match Lib.atoiAll l with
  | .ok v=>.tuple ⟨[.int .i64 v,.nilIface]⟩
  | .«syntax»=>.tuple ⟨[.int .i64 0,.iface 276 undef]⟩
  | .range=>.tuple ⟨[.int .i64 (Lib.atoiSat l),.iface 276 undef]⟩):=by
  unfold atoiF
  simp only [str_size]
  rw [if_pos (by omega)]
  cases Lib.atoiAll l <;> rfl
 show (atoiF _ _).map (·,h)=_
 rw [e1];rfl
theorem flat_nilI:flat .nilIface=true:=rfl
theorem index_lt {l:List UInt8} {e:UInt8} (h:0≤Lib.indexByte l e):(Lib.indexByte l e).toNat<l.length:=by
 obtain ⟨i,h1,h2⟩:=Dw.index_some l e h
 have:=congrArg List.length h2
 simp only [List.length_append,List.length_cons,List.length_take,List.length_drop] at this
 omega
theorem take_min (l:List UInt8) (n:Nat):l.take (min l.length n)=l.take n:=by
 rcases Nat.le_total l.length n with q | q
 ·rw [Nat.min_eq_left q,List.take_length,List.take_of_length_le q]
 ·rw [Nat.min_eq_right q]
theorem number_key {h:Heap} {b lo:Nat} {s:RS} {e:UInt8} {least:Int} (hob:h[b]?=some (rdC tW s)) (hlo:lo≤b) (hl:s.1.length≤1000000) :
  L E 144 [rdP b,.int .u8 e.toNat,.int .i64 least] h lo=some (.int .i64 (numS e least s).1,h.set b (rdC tW (numS e least s).2)):=by
 obtain ⟨l,bad⟩:=s
 simp only at hl
 have l1:=rd_rest hob (sz:=some 1)
 have c1:∀ h,sliceT .str h (.string ⟨⟨l⟩⟩) none (some (.int .i64 (if 21<(l.length:Int) then 21 else (l.length:Int)))) none=some (.string ⟨⟨l.take 21⟩⟩):=fun h=>by
  rw [show (if 21<(l.length:Int) then 21 else (l.length:Int))=((min l.length 21:Nat):Int) by split <;> omega,sv_take (Nat.min_le_left _ _),take_min]
 have ix:=ixb_pure (l.take 21) e
 have fl:=fail_spec hob hlo
 unfold numS numP
 simp only
 have hge:=Lib.indexByte_ge (l.take 21) e
 rw [L_fn F144 rfl]
 by_cases h0:Lib.indexByte (l.take 21) e<0
 ·rw [if_pos h0]
  simp -implicitDefEqProofs [r144,p144,rop_nilCheck,l1,c1,str_size,aMinMax,ret0 mIB,ix,h0,fl]
 ·rw [if_neg h0]
  have hlt:=index_lt (l:=l.take 21) (e:=e) (by omega)
  generalize Lib.indexByte (l.take 21) e=z at *
  obtain ⟨i,rfl⟩:∃ i:Nat,z=i:=⟨z.toNat,by omega⟩
  rw [Int.toNat_natCast] at *
  have hi2:i<l.length:=by simp at hlt;omega
  have c2:∀ h,sliceT .str h (.string ⟨⟨l.take 21⟩⟩) none (some (.int .i64 (i:Int))) none=some (.string ⟨⟨(l.take 21).take i⟩⟩):=fun h=>sv_take (by omega)
  have hx:((l.take 21).take i).length≤1000000:=by simp;omega
  generalize hX:(l.take 21).take i=x at *
  have at1:=fun h=>ato_call hx (h:=h) (lo:=lo)
  have c3:∀ h,sliceT .str h (.string ⟨⟨l⟩⟩) (some (.int .i64 ((i:Int)+1))) none none=some (.string ⟨⟨l.drop (i+1)⟩⟩):=fun h=>sv_drop (u:=i+1) (by omega)
  have w1:IntKind.i64.wrap ((i:Int)+1)=(i:Int)+1:=wrap64 (by omega) (by omega)
  have st:=rd_set hob hlo (l.drop (i+1))
  cases hm:Lib.atoiAll x with
  | ok n =>
   have hn:=Dw.atoi_inR hm
   have it:=ito_pure hn
   simp only [hm] at at1
   by_cases q1:Bm.itoL n=x
   ·by_cases q2:least≤n
    ·have q3:¬ n<least:=by omega
     simp only
     rw [if_pos ⟨q1,q2⟩]
     simp -implicitDefEqProofs [r144,p144,rop_nilCheck,l1,c1,c2,c3,str_size,aMinMax,ret0 mIB,ix,h0,at1,flat_nilI,ret0 mIt,it,q1,q3,w1,st]
    ·have q3:n<least:=by omega
     simp only
     rw [if_neg (fun q=>q2 q.2)]
     simp -implicitDefEqProofs [r144,p144,rop_nilCheck,l1,c1,c2,str_size,aMinMax,ret0 mIB,ix,h0,fl,at1,flat_nilI,ret0 mIt,it,q1,q3]
   ·simp only
    rw [if_neg (fun q=>q1 q.1)]
    simp -implicitDefEqProofs [r144,p144,rop_nilCheck,l1,c1,c2,str_size,aMinMax,ret0 mIB,ix,h0,fl,at1,flat_nilI,ret0 mIt,it,q1]
  | «syntax» =>
   simp only [hm] at at1
   simp -implicitDefEqProofs [r144,p144,rop_nilCheck,l1,c1,c2,str_size,aMinMax,ret0 mIB,ix,h0,fl,at1,flat_nilI]
  | range =>
   simp only [hm] at at1
   simp -implicitDefEqProofs [r144,p144,rop_nilCheck,l1,c1,c2,str_size,aMinMax,ret0 mIB,ix,h0,fl,at1,flat_nilI]
theorem number_spec {h:Heap} {b lo:Nat} {s:RS} {e:UInt8} {least:Int} (hob:h[b]?=some (rdC tW s)) (hlo:lo≤b) (hl:s.1.length≤1000000) :
  retCall E (L E) lo false 144 [rdP b,.int .u8 e.toNat,.int .i64 least] h=some (.int .i64 (numS e least s).1,h.set b (rdC tW (numS e least s).2)):=by
 rw [ret3t m144,number_key hob hlo hl,Option.map_some,trim_le (by rw [List.length_set];exact Nat.le_refl _)]
end Go.Proofs.YtplebjehcgcdeaaGreatDoor.Bm
namespace Go.Proofs.YtplebjehcgcdeaaGreatDoor.Bm
open Go Go.RowKit
open Dw (RS numP numS closeS textS itemsL numsS minI)
theorem pre_pure (l:List UInt8) (c:UInt8):pureCall E.P (L E) 270 [.string ⟨⟨l⟩⟩,.string ⟨⟨[c]⟩⟩]=some (.bool (match l with | []=>false | x :: _=>decide (x=c))):=by
 rw [pureCall_fn F270 rfl]
 cases l with
 | nil=>simp -implicitDefEqProofs [r270,padS,str_size]
 | cons x r =>
  have c1:∀ h,sliceT .str h (.string ⟨⟨x :: r⟩⟩) none (some (.int .i64 1)) none=some (.string ⟨⟨[x]⟩⟩):=fun h=>by
   have:=sv_take (h:=h) (l:=x :: r) (u:=1) (k:=.i64) (by simp)
   simpa using this
  have hlen:(1:Int)≤(r.length:Int)+1:=by omega
  simp -implicitDefEqProofs [r270,padS,str_size,c1,hlen]
theorem cut_pure (l:List UInt8) (c:UInt8):pureCall E.P (L E) 220 [.string ⟨⟨l⟩⟩,.string ⟨⟨[c]⟩⟩]=some (match l with | []=>.tuple ⟨[.string ⟨⟨[]⟩⟩,.bool false]⟩ | x :: r=>if x=c then .tuple ⟨[.string ⟨⟨r⟩⟩,.bool true]⟩ else .tuple ⟨[.string ⟨⟨x :: r⟩⟩,.bool false]⟩):=by
 have hp:=pre_pure l c
 have key:pureCall E.P (L E) 256 [.string ⟨⟨l⟩⟩,.string ⟨⟨[c]⟩⟩]=some (match l with | []=>.tuple ⟨[.string ⟨⟨[]⟩⟩,.bool false]⟩ | x :: r=>if x=c then .tuple ⟨[.string ⟨⟨r⟩⟩,.bool true]⟩ else .tuple ⟨[.string ⟨⟨x :: r⟩⟩,.bool false]⟩):=by
  rw [pureCall_fn F256 rfl]
  cases l with
  | nil=>simp -implicitDefEqProofs [r256,padS,ret0 m270,hp]
  | cons x r =>
   have c1:∀ h,sliceT .str h (.string ⟨⟨x :: r⟩⟩) (some (.int .i64 1)) none none=some (.string ⟨⟨r⟩⟩):=fun h=>by
    have:=sv_drop (h:=h) (l:=x :: r) (u:=1) (k:=.i64) (by simp)
    simpa using this
   by_cases hx:x=c
   ·subst hx
    simp -implicitDefEqProofs [r256,padS,str_size,c1,ret0 m270,hp]
   ·simp -implicitDefEqProofs [r256,padS,ret0 m270,hp,hx]
 rw [pureCall_fn F220 rfl]
 cases l with
 | nil=>simp -implicitDefEqProofs [r220,padS,ret1s m256,key]
 | cons x r =>
  by_cases hx:x=c
  ·subst hx
   simp -implicitDefEqProofs [r220,padS,ret1s m256,key]
  ·simp -implicitDefEqProofs [r220,padS,ret1s m256,key,hx]
theorem close_spec {h:Heap} {b lo:Nat} {s:RS} {c:UInt8} (hob:h[b]?=some (rdC tW s)) (hlo:lo≤b) :
  retCall E (L E) lo false 188 [rdP b,.string ⟨⟨[c]⟩⟩] h=some (.tuple #[],h.set b (rdC tW (closeS c s))):=by
 obtain ⟨l,bad⟩:=s
 have l1:=rd_rest hob (sz:=some 1)
 have cp:=cut_pure l c
 have key:L E 188 [rdP b,.string ⟨⟨[c]⟩⟩] h lo=some (.tuple #[],h.set b (rdC tW (closeS c (l,bad)))):=by
  rw [L_fn F188 rfl]
  have bad2:∀ l',retCall E (L E) lo false 184 [rdP b] (h.set b (rdC tW (l',bad)))=some (.tuple #[],h.set b (rdC tW ([],true))):=fun l'=>by
   have:=fail_spec (lo:=lo) (rd_get (h:=h) (t:=tW) (l',bad) (ob_lt hob)) hlo
   rwa [List.set_set] at this
  unfold closeS
  cases l with
  | nil =>
   have s1:=rd_set hob hlo []
   simp -implicitDefEqProofs [r188,p188,rop_nilCheck,l1,ret1s m220,cp,s1,bad2]
  | cons x r =>
   by_cases hx:x=c
   ·subst hx
    have s1:=rd_set hob hlo r
    simp -implicitDefEqProofs [r188,p188,rop_nilCheck,l1,ret1s m220,cp,s1]
   ·have s1:=rd_set hob hlo (x :: r)
    simp -implicitDefEqProofs [r188,p188,rop_nilCheck,l1,ret1s m220,cp,s1,bad2,hx]
 rw [ret3t m188,key,Option.map_some,trim_le (by rw [List.length_set];exact Nat.le_refl _)]
theorem num_spec {h:Heap} {b lo:Nat} {s:RS} (hob:h[b]?=some (rdC tW s)) (hlo:lo≤b) (hl:s.1.length≤1000000) :
  retCall E (L E) lo false 85 [rdP b] h=some (.int .i64 (numS 59 0 s).1,h.set b (rdC tW (numS 59 0 s).2)):=by
 have n1:=number_spec (e:=59) (least:=0) hob hlo hl
 have e59:((59:UInt8).toNat:Int)=59:=rfl
 rw [e59] at n1
 have key:L E 85 [rdP b] h lo=some (.int .i64 (numS 59 0 s).1,h.set b (rdC tW (numS 59 0 s).2)):=by
  rw [L_fn F85 rfl]
  simp -implicitDefEqProofs [r85,padS,n1]
 rw [ret3t m85,key,Option.map_some,trim_le (by rw [List.length_set];exact Nat.le_refl _)]
theorem int_spec {h:Heap} {b lo:Nat} {s:RS} (hob:h[b]?=some (rdC tW s)) (hlo:lo≤b) (hl:s.1.length≤1000000) :
  retCall E (L E) lo false 187 [rdP b] h=some (.int .i64 (numS 59 minI s).1,h.set b (rdC tW (numS 59 minI s).2)):=by
 have n1:=number_spec (e:=59) (least:=minI) hob hlo hl
 have e59:((59:UInt8).toNat:Int)=59:=rfl
 rw [e59] at n1
 have key:L E 187 [rdP b] h lo=some (.int .i64 (numS 59 minI s).1,h.set b (rdC tW (numS 59 minI s).2)):=by
  rw [L_fn F187 rfl]
  unfold minI at n1 ⊢
  simp -implicitDefEqProofs [r187,padS,n1]
 rw [ret3t m187,key,Option.map_some,trim_le (by rw [List.length_set];exact Nat.le_refl _)]
end Go.Proofs.YtplebjehcgcdeaaGreatDoor.Bm
namespace Go.Proofs.YtplebjehcgcdeaaGreatDoor.Bm
open Go Go.RowKit
structure Enc (α:Type) where
 e:α→Value
 one:∀ a,one (e a)=true
 set:∀ a n,settled (n+1) (e a)=true
 bel:∀ a d n,below (d+1) n (e a)=true
 fits:∀ a sz,fitsTT ⟨some false,sz⟩ (e a)=true
namespace Enc
variable {α:Type} {O:Enc α} {h:Heap} {l m:List α} {P:Program}
def vals (O:Enc α) (l:List α):List Value:=l.map O.e
def o (O:Enc α) (k:Option Bool) (l:List α):Value:=match k with | none=>.slice none 0 0 | some b=>lst b (O.vals l)
def Ok (k:Option Bool) (l:List α):Prop:=k=none→l=[]
theorem ok_some {b:Bool}:Ok (some b) l:=fun h=>by cases h
def row (O:Enc α) (t:TypeId) (l:List α):AObj:=.cells t (O.vals l) 1
def part (b n:Nat) (l:List α):Value:=.slice (some ⟨b,0,some l.length⟩) n l.length
def sl (b:Nat) (l:List α):Value:=.slice (some ⟨b,0,some l.length⟩) l.length l.length
theorem vals_len:(O.vals l).length=l.length:=List.length_map _
theorem vals_app:O.vals (l++m)=O.vals l++O.vals m:=List.map_append
theorem e_cells (a:α):cellsL (O.e a)=[O.e a]:=by
 have:=O.one a
 unfold cellsL
 split
 ·rename_i h;rw [h] at this;cases this
 ·rfl
theorem vals_all (l:List α):(O.vals l).all (fun v=>(cellsL v).length == 1)=true:=by
 rw [List.all_eq_true]
 intro v hv
 obtain ⟨a,_,rfl⟩:=List.mem_map.1 hv
 rw [e_cells];rfl
theorem vals_set (l:List α):(O.vals l).all (settled 8)=true:=by
 rw [List.all_eq_true]
 intro v hv
 obtain ⟨a,_,rfl⟩:=List.mem_map.1 hv
 exact O.set a 7
theorem vals_flat:∀ l:List α,(O.vals l).flatMap cellsL=O.vals l
 | []=>rfl
 | a :: l=>by
  show cellsL (O.e a)++(O.vals l).flatMap cellsL=O.e a :: O.vals l
  rw [e_cells,vals_flat l];rfl
theorem vals_get {i:Nat} (hi:i<l.length):(O.vals l)[i]?=some (O.e l[i]):=by
 unfold vals;rw [List.getElem?_map,List.getElem?_eq_getElem hi];rfl
theorem vals_take (n:Nat):(O.vals l).take n=O.vals (l.take n):=by unfold vals;rw [List.map_take]
theorem o_len {k:Option Bool} (hk:Ok k l):lenT .sl h (O.o k l)=some (.int .i64 l.length):=by
 cases k with
 | none=>rw [hk rfl];rfl
 | some b=>show lenT .sl h (lst b (O.vals l))=_;rw [len_lst,vals_len]
theorem o_one {k:Option Bool}:Bm.one (O.o k l)=true:=by cases k <;> rfl
theorem o_set {k:Option Bool} {n:Nat}:settled (n+1) (O.o k l)=true:=by cases k <;> rfl
theorem o_bel {k:Option Bool} {d n:Nat}:below (d+1) n (O.o k l)=true:=by cases k <;> rfl
theorem o_reify {k:Option Bool} {n:Nat}:reify P (n+1) h (O.o k l)=some (O.o k l):=by cases k <;> rfl
theorem cells_tree {x:Bool}:sliceCells h 1 (lst x (O.vals l))=some (O.vals l,l.length):=by
 rw [cells_lst (vals_all l),vals_flat,vals_len]
theorem index_tree {x:Bool} {t:TypeId} {i:Nat} {k:IntKind} (hi:i<l.length):indexAddrT (.sl t ⟨some false,some 1⟩) (lst x (O.vals l)) (.int k (i:Int))=some (cptr (O.e l[i])):=by
 rw [index_lst,if_pos (by omega),Int.toNat_natCast,vals_get hi,Option.bind_some,O.fits,e_cells];rfl
theorem row_bel {n:Nat} {t:TypeId}:belowO n (O.row t l)=true:=by
 show (O.vals l).all (below 8 n)=true
 rw [List.all_eq_true]
 intro v hv
 obtain ⟨a,_,rfl⟩:=List.mem_map.1 hv
 exact O.bel a 7 n
theorem sl_bel {n d b:Nat} (hb:b<n):below (d+1) n (sl b l)=true:=decide_eq_true hb
theorem row_of {b n:Nat} {t:TypeId} (hob:h[b]?=some (O.row t l)) (hn:n=l.length) {off:Nat}:rowOf h ⟨b,off,some n⟩=some (O.vals l):=by
 subst hn
 unfold rowOf
 show (match h[b]? with | some (.cells _ c g)=>_ | _=>none)=_
 rw [hob]
 show (if stampOk _ 1 (O.vals l).length=true then some (O.vals l) else none)=_
 rw [if_pos (by unfold stampOk;rw [vals_len];simp)]
theorem fits_row {b n:Nat} {t:TypeId} (hob:h[b]?=some (O.row t l)) (hn:n=l.length) {off:Nat}:fitsRow h ⟨b,off,some n⟩ 1=true:=by
 subst hn
 unfold fitsRow
 show (match h[b]? with | some (.cells _ c g)=>_ | _=>false)=true
 rw [hob]
 show (stampOk _ 1 (O.vals l).length && _)=true
 unfold stampOk;rw [vals_len];simp
theorem frz_part {b n lo:Nat} {t:TypeId} (hob:h[b]?=some (O.row t l)) (hn:n≤l.length) (hs:szOf P t=some 1) (ha:aggT P t=some false) (hlo:lo≤b) :
  freezeV P depth lo h (part b n l)=some (lst false (O.vals (l.take n)),if n=0 then h else h.set b .dead):=by
 have e:((O.vals l).drop 0).take (n * 1)=O.vals (l.take n):=by rw [List.drop_zero,Nat.mul_one,vals_take]
 exact frz_row1 (a:=⟨b,0,some l.length⟩) (t:=t) (c:=O.vals l) (g:=1) hob hs hlo (by unfold stampOk;rw [vals_len];simp) Nat.one_pos (by rw [vals_len];simp;omega) (by rw [e];exact vals_set _)
  (by rw [e];exact elems_one ha hs) (by rw [vals_len,List.length_take];omega)
theorem frz_sl {b lo:Nat} {t:TypeId} (hob:h[b]?=some (O.row t l)) (hs:szOf P t=some 1) (ha:aggT P t=some false) (hlo:lo≤b) :
  freezeV P depth lo h (sl b l)=some (lst false (O.vals l),if l.length=0 then h else h.set b .dead):=by
 have:=frz_part (P:=P) (lo:=lo) hob (Nat.le_refl l.length) hs ha hlo
 rw [List.take_length] at this
 exact this
theorem app {el:El} {lo b:Nat} {t:TypeId} {u:Value} (hel:el.size=1) (hob:h[b]?=some (O.row t l)) (hu:sliceCells h 1 u=some (O.vals m,m.length)) (hlo:lo≤b) (hb:(l.length+m.length) * el.bytes≤2 ^ 47) (hte:t=el.e:=by rfl) :
  appendT (some el) h lo false (sl b l) u=some (sl b (l++m),h.set b (O.row t (l++m))):=by
 have hob':h[b]?=some (.cells t (O.vals l) 1):=hob
 unfold sl
 rw [append_slice,hel,hu]
 show appS el h lo false _ _ _ h[b]? _=_
 by_cases hm:m.length=0
 ·have:m=[]:=List.eq_nil_of_length_eq_zero hm
  subst this
  have hf:fitsRow h ⟨b,0,some l.length⟩ el.size=true:=by rw [hel];exact fits_row hob rfl
  unfold appS
  simp only [List.append_nil,List.length_nil,Nat.add_zero,Nat.le_refl,if_true,hf,Option.bind_some]
  congr 2
  refine (List.ext_getElem? fun i=>?_)
  rw [List.getElem?_set]
  split
  ·rename_i e;subst e
   split
   ·exact hob
   ·rename_i hlt;rw [List.getElem?_eq_none (by omega)]
  ·rfl
 ·rw [hob']
  refine (appS_grown (m:=m.length) hm vals_len.symm rfl hel (by rw [vals_len];omega) hlo hb hte).trans ?_
  unfold row
  rw [vals_app,List.length_append,vals_len,vals_len,List.length_append]
theorem lit {el:El} (a:α) (hel:el.size=1) (hz:el.z.cells.size=1) (hk:el.k=⟨some false,some 1⟩):buildSliceT (some el) false h 1 #[(0,O.e a)]=some (lst true (O.vals [a]),h):=by
 rw [build_one' (O.one a) hel hz,if_neg (by simp),if_pos (O.set a 7),hk];rfl
end Enc
def intE:Enc Int:=⟨.int .i64,fun _=>rfl,fun _ _=>rfl,fun _ _ _=>rfl,fun _ _=>rfl⟩
end Go.Proofs.YtplebjehcgcdeaaGreatDoor.Bm
