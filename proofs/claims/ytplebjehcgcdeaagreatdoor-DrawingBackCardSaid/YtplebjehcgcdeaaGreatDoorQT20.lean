/-
 The program's reader of a phase. Conditions: a heap that names only itself.
-/
import Derived.Test.YtplebjehcgcdeaaGreatDoorQT19
import Derived.Test.YtplebjehcgcdeaaGreatDoorQT17
import Derived.Lib.IndexMore
namespace Go.Proofs.YtplebjehcgcdeaaGreatDoor.Bm
open Go Go.RowKit
open Dw (RS numP numS closeS textS itemsL numsS minI)
theorem numS_len {e:UInt8} {least:Int} (s:RS):(numS e least s).2.1.length≤s.1.length:=by
 unfold numS
 cases h:numP e least s.1 with
 | none=>exact Nat.zero_le _
 | some r =>
  obtain ⟨n,r⟩:=r
  have:=(Dw.numP_some h).1
  rw [this];simp;omega
theorem closeS_len {c:UInt8} (s:RS):(closeS c s).1.length≤s.1.length:=by
 unfold closeS
 cases s.1 with
 | nil=>exact Nat.zero_le _
 | cons x r =>
  simp only
  split <;> simp
theorem textS_len (s:RS):(textS s).2.1.length≤s.1.length:=by
 unfold textS
 simp only
 split
 ·exact Nat.zero_le _
 ·have h1:=closeS_len (c:=44) ((numS 58 0 s).2.1.drop (numS 58 0 s).1.toNat,(numS 58 0 s).2.2)
  have h2:=numS_len (e:=58) (least:=0) s
  simp only [List.length_drop] at h1
  split <;> simp only <;> omega
theorem itemsL_len:∀ (n:Nat) (s:RS) (out:List Int),(itemsL n s out).2.1.length≤s.1.length
 | 0,s,out=>Nat.le_refl _
 | n+1,s,out=>by
  unfold itemsL
  split
  ·exact Nat.le_refl _
  ·have h1:=itemsL_len n (numS 59 minI s).2 (out++[(numS 59 minI s).1])
   have h2:=numS_len (e:=59) (least:=minI) s
   omega
theorem numsS_len (s:RS):(numsS s).2.1.length≤s.1.length:=by
 unfold numsS
 simp only
 have h1:=closeS_len (c:=93) (itemsL (numS 91 0 s).1.toNat (numS 91 0 s).2 []).2
 have h2:=itemsL_len (numS 91 0 s).1.toNat (numS 91 0 s).2 []
 have h3:=numS_len (e:=91) (least:=0) s
 split <;> simp only <;> omega
theorem text_spec {h:Heap} {b lo:Nat} {s:RS} (hob:h[b]?=some (rdC tW s)) (hlo:lo≤b) (hl:s.1.length≤1000000) :
  retCall E (L E) lo false 146 [rdP b] h=some (.string ⟨⟨(textS s).1⟩⟩,h.set b (rdC tW (textS s).2)):=by
 have n1:=number_spec (e:=58) (least:=0) hob hlo hl
 have e58:((58:UInt8).toNat:Int)=58:=rfl
 rw [e58] at n1
 have hge:=Dw.numS_ge (e:=58) (least:=0) (s:=s) (Int.le_refl _)
 have hle:=numS_len (e:=58) (least:=0) s
 have key:L E 146 [rdP b] h lo=some (.string ⟨⟨(textS s).1⟩⟩,h.set b (rdC tW (textS s).2)):=by
  rw [L_fn F146 rfl]
  unfold textS
  generalize numS 58 0 s=a at *
  obtain ⟨z,s1⟩:=a
  obtain ⟨n,rfl⟩:∃ n:Nat,z=n:=⟨z.toNat,(Int.toNat_of_nonneg hge).symm⟩
  simp only [Int.toNat_natCast] at *
  have hb:=ob_lt hob
  have h1:=rd_get (h:=h) (t:=tW) s1 hb
  have l1:=rd_rest h1 (sz:=some 1)
  by_cases hc:(s1.1.length:Int)<n
  ·rw [if_pos hc]
   have fl:=fail_spec (lo:=lo) h1 hlo
   rw [List.set_set] at fl
   simp -implicitDefEqProofs [r146,p146,n1,rop_nilCheck,l1,str_size,hc,fl,-Int.natCast_add]
  ·rw [if_neg hc]
   have c1:∀ h,sliceT .str h (.string ⟨⟨s1.1⟩⟩) none (some (.int .i64 (n:Int))) none=some (.string ⟨⟨s1.1.take n⟩⟩):=fun h=>sv_take (by omega)
   have c2:∀ h,sliceT .str h (.string ⟨⟨s1.1⟩⟩) (some (.int .i64 (n:Int))) none none=some (.string ⟨⟨s1.1.drop n⟩⟩):=fun h=>sv_drop (by omega)
   have st:=rd_set h1 hlo (s1.1.drop n)
   rw [List.set_set] at st
   have h2:=rd_get (h:=h) (t:=tW) (s1.1.drop n,s1.2) hb
   have cl:=close_spec (c:=44) (lo:=lo) h2 hlo
   rw [List.set_set] at cl
   generalize closeS 44 (s1.1.drop n,s1.2)=s2 at *
   have h3:=rd_get (h:=h) (t:=tW) s2 hb
   have l2:=rd_bad h3 (sz:=some 1)
   by_cases hq:s2.2=true
   ·simp -implicitDefEqProofs [r146,p146,n1,rop_nilCheck,l1,str_size,hc,c1,c2,st,cl,l2,hq,-Int.natCast_add]
   ·rw [Bool.not_eq_true] at hq
    simp -implicitDefEqProofs [r146,p146,n1,rop_nilCheck,l1,str_size,hc,c1,c2,st,cl,l2,hq,-Int.natCast_add]
 rw [ret3t m146,key,Option.map_some,trim_le (by rw [List.length_set];exact Nat.le_refl _)]
def kd (b:Bool):Option Bool:=if b then none else some false
theorem s3:szOf E.P 3=some 1:=by kernel_rfl
theorem aI:aggT E.P 3=some false:=by kernel_rfl
theorem lit_int (h:Heap) (z:Int):buildSliceT (some ⟨3,1,8,.int .i64 0,⟨some false,some 1⟩⟩) false h 1 #[(0,.int .i64 z)]=some (lst true [.int .i64 z],h) :=
 (build_lit' (n:=1) (l:=[(0,.int .i64 z)]) rfl rfl (by decide) (by decide) (by decide)).trans rfl
theorem app_int {h:Heap} {b lo:Nat} {c:List Int} (z:Int) (hob:h[b]?=some (intE.row 3 c)) (hlo:lo≤b) (hc:c.length≤1000000) :
  appendT (some ⟨3,1,8,.int .i64 0,⟨some false,some 1⟩⟩) h lo false (Enc.sl b c) (lst true [.int .i64 z])=some (Enc.sl b (c++[z]),h.set b (intE.row 3 (c++[z]))) :=
 Enc.app (O:=intE) (m:=[z]) rfl hob (Enc.cells_tree (O:=intE) (x:=true) (l:=[z])) hlo (by show (c.length+1) * 8≤2 ^ 47;omega)
def pot (s:RS):Nat:=s.1.length+(if s.2 then 0 else 1)
theorem numS_pot {e:UInt8} {least:Int} {s:RS} (hs:s.2=false):1+pot (numS e least s).2≤pot s:=by
 unfold pot numS
 rw [hs]
 cases h:numP e least s.1 with
 | none=>simp
 | some r =>
  obtain ⟨n,r⟩:=r
  have:=(Dw.numP_some h).1
  rw [this]
  simp;omega
theorem items_key {h:Heap} {b lo:Nat} {s:RS} (hob:h[b]?=some (rdC tW s)) (hlo:lo≤b) (hl:s.1.length≤100000) :
  ∃ o,L E 186 [rdP b,.func (.func 187) ⟨[rdP b]⟩ ⟨[]⟩] h lo=some (intE.o (kd (numsS s).2.2) (numsS s).1,(h.set b (rdC tW (numsS s).2))++[o]):=by
 have hb:=ob_lt hob
 have hob':(h++[intE.row 3 []])[b]?=some (rdC tW s):=by rw [List.getElem?_append_left hb];exact hob
 have n1:=number_spec (e:=91) (least:=0) hob' hlo (by omega)
 have e91:((91:UInt8).toNat:Int)=91:=rfl
 rw [e91] at n1
 have hge:=Dw.numS_ge (e:=91) (least:=0) (s:=s) (Int.le_refl _)
 have hle:=numS_len (e:=91) (least:=0) s
 have hin:=Dw.numS_inR (e:=91) (least:=0) (s:=s)
 have esl:Value.slice (some ⟨h.length,0,some 0⟩) 0 0=Enc.sl h.length ([]:List Int):=rfl
 have erow:AObj.cells 3 [] 1=intE.row 3 []:=rfl
 have eset:∀ (s:RS) (out:List Int),(h++[intE.row 3 out]).set b (rdC tW s)=h.set b (rdC tW s)++[intE.row 3 out]:=fun s out=>List.set_append_left _ _ hb
 rw [eset] at n1
 rw [L_fn F186 rfl]
 unfold numsS
 generalize numS 91 0 s=a at *
 obtain ⟨z,s1⟩:=a
 obtain ⟨n,rfl⟩:∃ n:Nat,z=n:=⟨z.toNat,(Int.toNat_of_nonneg hge).symm⟩
 simp only [Int.toNat_natCast] at *
 simp -implicitDefEqProofs [r186,p186,prep_new,newK_nil s3,esl,erow,n1,-Int.natCast_add,-Int.natCast_mul]
 have hp1:pot s1≤100001:=by unfold pot;split <;> omega
 rw [LL_rec (α:=RS × Nat × List Int) (s1,n,[]) (fun a=>[(5,Enc.sl h.length a.2.2),(6,.int .i64 (a.2.1:Int))]) (fun a=>h.set b (rdC tW a.1)++[intE.row 3 a.2.2])
  (fun a=>(.exit 0,[(5,Enc.sl h.length (itemsL a.2.1 a.1 a.2.2).1),(6,undef)],h.set b (rdC tW (itemsL a.2.1 a.1 a.2.2).2)++[intE.row 3 (itemsL a.2.1 a.1 a.2.2).1]))
  (fun a=>pot a.1+a.2.2.length≤100001∧(a.2.1:Int)≤9223372036854775807) (fun a=>a.2.1) ⟨hp1,hin.2⟩]
 ·generalize itemsL n s1 []=c
  have h3:(h.set b (rdC tW c.2)++[intE.row 3 c.1])[b]?=some (rdC tW c.2):=by rw [List.getElem?_append_left (by rw [List.length_set];exact hb)];exact rd_get c.2 hb
  have cl:=close_spec (c:=93) (lo:=lo) h3 hlo
  have eset2:∀ s':RS,(h.set b (rdC tW c.2)++[intE.row 3 c.1]).set b (rdC tW s')=h.set b (rdC tW s')++[intE.row 3 c.1]:=fun s'=>by
   rw [List.set_append_left _ _ (by rw [List.length_set];exact hb),List.set_set]
  rw [eset2] at cl
  generalize closeS 93 c.2=s4 at *
  have h4:(h.set b (rdC tW s4)++[intE.row 3 c.1])[b]?=some (rdC tW s4):=by rw [List.getElem?_append_left (by rw [List.length_set];exact hb)];exact rd_get s4 hb
  have l4:=rd_bad h4 (sz:=some 1)
  have ht:(h.set b (rdC tW s4)++[intE.row 3 c.1])[h.length]?=some (intE.row 3 c.1):=by rw [List.getElem?_append_right (by rw [List.length_set];exact Nat.le_refl _),List.length_set,Nat.sub_self];rfl
  by_cases hq:s4.2=true
  ·rw [hq] at l4
   rw [if_pos hq]
   refine ⟨intE.row 3 c.1,?_⟩
   simp -implicitDefEqProofs [k186_3,cl,rop_nilCheck,l4]
   rw [hq];rfl
  ·rw [if_neg hq]
   rw [Bool.not_eq_true] at hq
   rw [hq] at l4
   have fr:=Enc.frz_sl (P:=E.P) (lo:=lo) ht s3 aI (by omega)
   by_cases h0:c.1.length=0
   ·refine ⟨intE.row 3 c.1,?_⟩
    rw [if_pos h0] at fr
    simp -implicitDefEqProofs [k186_3,cl,rop_nilCheck,l4,prep_frz,fr,hq]
    rfl
   ·refine ⟨.dead,?_⟩
    rw [if_neg h0,List.set_append_right _ _ (by rw [List.length_set];exact Nat.le_refl _),List.length_set,Nat.sub_self,List.set_cons_zero] at fr
    simp -implicitDefEqProofs [k186_3,cl,rop_nilCheck,l4,prep_frz,fr,hq]
    rfl
 ·simp -implicitDefEqProofs [k186_3]
 ·rfl
 ·rintro nx ⟨s2,m,out⟩ ⟨hi1,hi2⟩ ih
  simp only at hi1 hi2
  have h2:(h.set b (rdC tW s2)++[intE.row 3 out])[b]?=some (rdC tW s2):=by rw [List.getElem?_append_left (by rw [List.length_set];exact hb)];exact rd_get s2 hb
  have l2:=rd_bad h2 (sz:=some 1)
  cases m with
  | zero =>
   simp -implicitDefEqProofs [r186_3,k186_3,itemsL,trim_le]
  | succ m =>
   have hm0:(0:Int)<((m+1:Nat):Int):=by omega
   by_cases hs:s2.2=true
   ·rw [hs] at l2
    simp -implicitDefEqProofs [r186_3,k186_3,itemsL,trim_le,rop_nilCheck,l2,hs,-Int.natCast_add]
   ·rw [Bool.not_eq_true] at hs
    rw [hs] at l2
    have hp:=numS_pot (e:=59) (least:=minI) hs
    have i1:=int_spec (lo:=lo) h2 hlo (by unfold pot at hi1;omega)
    have eset2:∀ s':RS,(h.set b (rdC tW s2)++[intE.row 3 out]).set b (rdC tW s')=h.set b (rdC tW s')++[intE.row 3 out]:=fun s'=>by
     rw [List.set_append_left _ _ (by rw [List.length_set];exact hb),List.set_set]
    rw [eset2] at i1
    have e3:itemsL (m+1) s2 out=itemsL m (numS 59 minI s2).2 (out++[(numS 59 minI s2).1]):=by
     conv=>lhs;unfold itemsL
     rw [if_neg (by rw [hs];simp)]
    rw [e3]
    have ih:=ih ((numS 59 minI s2).2,m,out++[(numS 59 minI s2).1]) (by simp) ⟨by simp only [List.length_append,List.length_singleton];omega,by simp only;omega⟩
    generalize numS 59 minI s2=a at *
    have ht:(h.set b (rdC tW a.2)++[intE.row 3 out])[h.length]?=some (intE.row 3 out):=by rw [List.getElem?_append_right (by rw [List.length_set];exact Nat.le_refl _),List.length_set,Nat.sub_self];rfl
    have ap:=app_int (lo:=lo) a.1 ht (by omega) (by unfold pot at hi1;omega)
    rw [List.set_append_right _ _ (by rw [List.length_set];exact Nat.le_refl _),List.length_set,Nat.sub_self,List.set_cons_zero] at ap
    have li:=fun h=>lit_int h a.1
    have w1:IntKind.i64.wrap (((m+1:Nat):Int)-1)=(m:Int):=(wrap64 (by omega) (by omega)).trans (by omega)
    simp -implicitDefEqProofs [k186_3,-Int.natCast_add] at ih
    simp -implicitDefEqProofs [r186_3,k186_3,trim_le,rop_nilCheck,l2,i1,li,ap,w1,-Int.natCast_add]
    exact ih
theorem rd_all {h:Heap} {b:Nat} {t:TypeId} (s:RS) (hb:h.all (belowO h.length)=true):(h.set b (rdC t s)).all (belowO h.length)=true:=by
 rw [List.all_eq_true] at hb ⊢
 intro z hz
 rcases List.mem_or_eq_of_mem_set hz with q | q
 ·exact hb z q
 ·rw [q];rfl
theorem items_spec {h:Heap} {b lo:Nat} {s:RS} (hob:h[b]?=some (rdC tW s)) (hlo:lo≤b) (hl:s.1.length≤100000) (hbl:h.all (belowO h.length)=true) :
  retCall E (L E) lo false 186 [rdP b,.func (.func 187) ⟨[rdP b]⟩ ⟨[]⟩] h=some (intE.o (kd (numsS s).2.2) (numsS s).1,h.set b (rdC tW (numsS s).2)):=by
 obtain ⟨o,key⟩:=items_key hob hlo hl
 have e:(h.set b (rdC tW (numsS s).2)).length=h.length:=List.length_set
 rw [ret3t m186,key,Option.map_some]
 rw [trim_cut (by rw [List.length_append,e];simp) (by simp only [List.all_cons,List.all_nil,Bool.and_true];exact Enc.o_bel) (by rw [List.take_left' e];exact rd_all _ hbl),List.take_left' e]
theorem nums_spec {h:Heap} {b lo:Nat} {s:RS} (hob:h[b]?=some (rdC tW s)) (hlo:lo≤b) (hl:s.1.length≤100000) (hbl:h.all (belowO h.length)=true) :
  retCall E (L E) lo false 145 [rdP b] h=some (intE.o (kd (numsS s).2.2) (numsS s).1,h.set b (rdC tW (numsS s).2)):=by
 have it:=items_spec hob hlo hl hbl
 have key:L E 145 [rdP b] h lo=some (intE.o (kd (numsS s).2.2) (numsS s).1,h.set b (rdC tW (numsS s).2)):=by
  rw [L_fn F145 rfl]
  simp -implicitDefEqProofs [r145,padS,it]
 rw [ret3t m145,key,Option.map_some,trim_le (by rw [List.length_set];exact Nat.le_refl _)]
end Go.Proofs.YtplebjehcgcdeaaGreatDoor.Bm
namespace Go.Proofs.YtplebjehcgcdeaaGreatDoor.Dw
open Go Go.Lib
def letB (c:UInt8):Bool:=decide (97≤c.toNat) && decide (c.toNat≤122)
def digB (c:UInt8):Bool:=decide (48≤c.toNat) && decide (c.toNat≤57)
def ldB (c:UInt8):Bool:=letB c || digB c
def wordB (l:List UInt8):Bool:=match l with
 | []=>false
 | c :: r=>letB c && decide ((c :: r).length≤20) && (c :: r).all ldB
def blanks (ws:List (List UInt8)):List UInt8:=32 :: ws.flatMap (· ++ [32])
theorem ld_ne {c:UInt8} (h:ldB c=true):c≠32:=by
 rintro rfl
 revert h
 decide
theorem word_ne {l:List UInt8} (h:wordB l=true):32 ∉ l:=by
 unfold wordB at h
 cases l with
 | nil=>simp
 | cons c r =>
  simp only [Bool.and_eq_true,List.all_eq_true] at h
  exact fun hm=>ld_ne (h.2 32 hm) rfl
theorem pre_word:∀ {a b r:List UInt8},32 ∉ a→32 ∉ b→((a++[32]).isPrefixOf (b++32 :: r)=true↔a=b)
 | [],[],r,_,_=>by simp
 | [],y :: b,r,_,hb=>by
  simp only [List.mem_cons,not_or] at hb
  have:((32:UInt8) == y)=false:=by simpa using hb.1
  simp [List.isPrefixOf,this]
 | x :: a,[],r,ha,_=>by
  simp only [List.mem_cons,not_or] at ha
  have:(x == (32:UInt8))=false:=by simpa using fun h=>ha.1 h.symm
  simp [List.isPrefixOf,this]
 | x :: a,y :: b,r,ha,hb=>by
  simp only [List.mem_cons,not_or] at ha hb
  have ih:=pre_word (r:=r) ha.2 hb.2
  simp only [List.cons_append,List.isPrefixOf,Bool.and_eq_true,beq_iff_eq,List.cons.injEq]
  rw [ih]
theorem index_cons {b:UInt8} {l sub:List UInt8}:0≤index (b :: l) sub↔(sub.isPrefixOf (b :: l)=true∨0≤index l sub):=by
 have h:=index_ge l sub
 constructor
 ·intro h'
  unfold index at h'
  split at h'
  ·exact .inl ‹_›
  ·split at h'
   ·exact absurd h' (by decide)
   ·right
    rename_i h1 h2
    have:index l sub≠-1:=by simpa using h2
    omega
 ·intro h'
  unfold index
  split
  ·decide
  ·rename_i h1
   rcases h' with h' | h'
   ·exact absurd h' h1
   ·rw [if_neg (by simp;omega)];omega
theorem index_word {w r s:List UInt8} (hw:32 ∉ w):0≤index (w++r) (32 :: s)↔0≤index r (32 :: s):=by
 induction w with
 | nil=>exact Iff.rfl
 | cons x w ih =>
  simp only [List.mem_cons,not_or] at hw
  have hx:((32:UInt8) == x)=false:=by simpa using hw.1
  show 0≤index (x :: (w++r)) _↔_
  rw [index_cons]
  simp only [List.isPrefixOf,hx,Bool.false_and]
  rw [ih hw.2]
  simp
theorem index_blanks {l:List UInt8} (hl:32 ∉ l):∀ {ws:List (List UInt8)},(∀ w∈ws,32 ∉ w)→(0≤index (blanks ws) (32 :: l++[32])↔l∈ws)
 | [],_=>by
  unfold blanks
  have h1:((32 :: l++[32]).isPrefixOf [32])=false:=by
   cases l <;> simp [List.isPrefixOf]
  rw [List.flatMap_nil,index_cons,h1]
  simp [index]
 | w :: ws,h=>by
  have hw:=h w (by simp)
  have e:blanks (w :: ws)=32 :: (w++blanks ws):=by unfold blanks;simp
  rw [e,index_cons]
  have ih:=index_blanks hl (ws:=ws) fun x hx=>h x (List.mem_cons_of_mem _ hx)
  have hp:(32 :: l++[32]).isPrefixOf (32 :: (w++blanks ws))=true↔l=w:=by
   show ((32:UInt8) == 32 && (l++[32]).isPrefixOf (w++blanks ws))=true↔_
   rw [show ((32:UInt8) == 32)=true from rfl,Bool.true_and]
   exact pre_word hl hw
  rw [hp]
  show _∨0≤index (w++blanks ws) (32 :: (l++[32]))↔_
  rw [index_word hw]
  rw [show (32 :: (l++[32]))=32 :: l++[32] from rfl,ih]
  simp
def resW:List (List UInt8):=[[97,110,100],[97,112,97,114,116],[98,97,115,101],[99,97,112],[100,101,102,105,110,101],[101,108,115,101],[101,120,99,101,112,116],[102,114,111,109],[103,114,97,99,101],[104,111,117,114,115],[105,102],[105,110],[108,101,97,115,116],[110,111,116],[111,114],[111,118,101,114,108,97,121],[112,108,97,110,101],[114,117,108,101],[115,108,111,112,101],[115,117,110],[116,97,98,108,101],[116,104,101,110],[117,110,116,105,108],[117,115,101,115],[118,97,114,121],[118,105,101,119],[122,111,110,101]]
def nameB (l:List UInt8):Bool:=wordB l && !decide (l∈resW)
theorem resW_ne:∀ w∈resW,32 ∉ w:=by decide
theorem cont_res {l:List UInt8} (hl:wordB l=true):contains (blanks resW) (32 :: l++[32])=decide (l∈resW):=by
 unfold contains
 exact decide_eq_decide.2 (index_blanks (word_ne hl) resW_ne)
end Go.Proofs.YtplebjehcgcdeaaGreatDoor.Dw
namespace Go.Proofs.YtplebjehcgcdeaaGreatDoor.Dw
open Go Go.Lib
def rightRB (x0 y0 x1 y1:Int):Bool:=decide (0≤x0) && decide (x0<x1) && decide (x1≤1048576) && decide (0≤y0) && decide (y0<y1) && decide (y1≤1048576)
def rightV (v:Vol):Bool:=rightRB v.x0 v.y0 v.x1 v.y1 && decide (0≤v.z0) && decide (v.z0<v.z1) && decide (v.z1≤4096) && (decide (v.use=0) || decide (v.units=0)) && decide (0≤v.use) && decide (v.use<6) && decide (0≤v.units) && decide (v.units≤1048576)
def meetV (a b:Vol):Bool:=decide (max a.x0 b.x0<min a.x1 b.x1) && decide (max a.y0 b.y0<min a.y1 b.y1) && decide (a.z0<b.z1) && decide (b.z0<a.z1)
def volsB:List Vol→List Vol→Bool
 | _,[]=>true
 | pre,v :: r=>rightV v && !pre.any (fun w=>meetV v w) && volsB (pre++[v]) r
def givesB:List (List UInt8)→List Ent→Bool
 | _,[]=>true
 | pre,e :: r=>!decide (e.1∈pre) && nameB e.1 && decide (0≤e.2) && decide (e.2≤1073741824) && givesB (pre++[e.1]) r
def phsB (p:Phs):Bool:=givesB [] p.gives && decide (p.gives.length≤30)
def Drw.all (d:Drw):List Vol:=d.phs.flatMap Phs.vols
def formB (d:Drw):Bool:=decide (0≤d.lot) && decide (d.lot≤1073741824) && decide (1≤d.phs.length) && decide (d.phs.length≤8) && decide (1≤d.all.length) && decide (d.all.length≤40) && volsB [] d.all && d.phs.all phsB
theorem volsB_right:∀ (l pre:List Vol),volsB pre l=true→∀ v∈l,rightV v=true
 | [],_,_,v,hv=>by cases hv
 | x :: l,pre,h,v,hv=>by
  unfold volsB at h
  simp only [Bool.and_eq_true] at h
  rcases List.mem_cons.1 hv with rfl | hv
  ·exact h.1.1
  ·exact volsB_right l _ h.2 v hv
theorem givesB_ok:∀ (l:List Ent) (pre:List (List UInt8)),givesB pre l=true→∀ e∈l,nameB e.1=true∧0≤e.2∧e.2≤1073741824
 | [],_,_,e,he=>by cases he
 | x :: l,pre,h,e,he=>by
  unfold givesB at h
  simp only [Bool.and_eq_true,decide_eq_true_eq] at h
  rcases List.mem_cons.1 he with rfl | he
  ·exact ⟨h.1.1.1.2,h.1.1.2,h.1.2⟩
  ·exact givesB_ok l _ h.2 e he
theorem name_len {l:List UInt8} (h:nameB l=true):l.length≤20:=by
 unfold nameB wordB at h
 cases l with
 | nil=>simp
 | cons c r =>
  simp only [Bool.and_eq_true,decide_eq_true_eq] at h
  exact h.1.1.2
theorem right_inR {v:Vol} (h:rightV v=true):v.inR:=by
 unfold rightV rightRB at h
 simp only [Bool.and_eq_true,decide_eq_true_eq,Bool.or_eq_true] at h
 obtain ⟨⟨⟨⟨⟨⟨⟨⟨⟨⟨⟨⟨⟨a1,a2⟩,a3⟩,a4⟩,a5⟩,a6⟩,b1⟩,b2⟩,b3⟩,b4⟩,c1⟩,c2⟩,c3⟩,c4⟩:=h
 unfold Vol.inR Vol.nums
 intro n hn
 simp only [List.mem_cons,List.not_mem_nil,or_false] at hn
 unfold Dw.inR
 rcases hn with rfl | rfl | rfl | rfl | rfl | rfl | rfl | rfl | rfl
 all_goals first | (constructor <;> omega) | (split <;> constructor <;> omega)
theorem flat_len:∀ {l:List Phs} {p:Phs},p∈l→p.vols.length≤(l.flatMap Phs.vols).length
 | x :: l,p,hp=>by
  rw [List.flatMap_cons,List.length_append]
  rcases List.mem_cons.1 hp with rfl | hp
  ·omega
  ·have:=flat_len hp;omega
theorem mem_len {d:Drw} {p:Phs} (hp:p∈d.phs):p.vols.length≤d.all.length:=flat_len hp
theorem form_fit {d:Drw} (h:formB d=true):Fit d:=by
 unfold formB at h
 simp only [Bool.and_eq_true,decide_eq_true_eq,List.all_eq_true] at h
 obtain ⟨⟨⟨⟨⟨⟨⟨h1,h2⟩,h3⟩,h4⟩,h5⟩,h6⟩,h7⟩,h8⟩:=h
 have hr:=volsB_right _ _ h7
 refine ⟨⟨h1,by unfold inR;omega⟩,h4,fun p hp=>⟨?_,fun v hv=>right_inR (hr v ?_)⟩,fun p hp=>?_⟩
 ·have:=mem_len hp;omega
 ·unfold Drw.all;exact List.mem_flatMap.2 ⟨p,hp,hv⟩
 ·have hq:=h8 p hp
  unfold phsB at hq
  simp only [Bool.and_eq_true,decide_eq_true_eq] at hq
  refine ⟨hq.2,fun e he=>?_⟩
  obtain ⟨e1,e2,e3⟩:=givesB_ok _ _ hq.1 e he
  have:=name_len e1
  exact ⟨by omega,e2,by unfold inR;omega⟩
end Go.Proofs.YtplebjehcgcdeaaGreatDoor.Dw
namespace Go.Proofs.YtplebjehcgcdeaaGreatDoor.Bm
open Go Go.RowKit
namespace Rec
variable {α:Type} {R:Rec α}
def o (R:Rec α) (k:Option Bool) (l:List α):Value:=match k with | none=>.slice none 0 0 | some b=>lst b (R.vals l)
def Ok (k:Option Bool) (l:List α):Prop:=k=none→l=[]
theorem ok_some {b:Bool} {l:List α}:Ok (some b) l:=fun h=>by cases h
section
variable {k:Option Bool} {l:List α} {h:Heap}
theorem o_len (hk:Ok k l):lenT .sl h (R.o k l)=some (.int .i64 l.length):=by
 cases k with
 | none=>have:=hk rfl;subst this;rfl
 | some b=>exact tree_len
theorem o_one:one (R.o k l)=true:=by cases k <;> rfl
theorem o_set {n:Nat}:settled (n+1) (R.o k l)=true:=by cases k <;> rfl
theorem o_bel {d n:Nat}:below (d+1) n (R.o k l)=true:=by cases k <;> rfl
theorem o_reify {P:Program} {n:Nat}:reify P (n+1) h (R.o k l)=some (R.o k l):=by cases k <;> rfl
theorem o_index {s i:Nat} {t:TypeId} {kk:IntKind} (hs:s=R.m+1) (hk:Ok k l) (h1:i<l.length):indexAddrT (.sl t ⟨some true,some s⟩) (R.o k l) (.int kk (i:Int))=some (cptr (R.val l[i])):=by
 cases k with
 | none=>have:=hk rfl;subst this;simp at h1
 | some b=>exact index_tree hs h1
end
end Rec
end Go.Proofs.YtplebjehcgcdeaaGreatDoor.Bm
namespace Go.Proofs.YtplebjehcgcdeaaGreatDoor.Bm
open Go Go.RowKit
open Dw (RS Vol Ent Phs Drw)
abbrev tV:TypeId:=60
abbrev tE:TypeId:=83
abbrev tP:TypeId:=78
abbrev tD:TypeId:=37
def volR:Rec Vol where
 enc v:=[.int .i64 v.x0,.int .i64 v.y0,.int .i64 v.x1,.int .i64 v.y1,.int .i64 v.z0,.int .i64 v.z1,.int .i64 v.use,.int .i64 v.units,.bool v.extra]
 m:=8
 len _:=rfl
 set _:=rfl
 bel _ _:=rfl
def entR:Rec Ent where
 enc e:=[.string ⟨⟨e.1⟩⟩,.int .i64 e.2]
 m:=1
 len _:=rfl
 set _:=rfl
 bel _ _:=rfl
def phR:Rec Phs where
 enc p:=[lst false (volR.vals p.vols),lst false (entR.vals p.gives)]
 m:=1
 len _:=rfl
 set _:=rfl
 bel _ _:=rfl
def drV (k:Option Bool) (d:Drw):Value:=.agg ⟨[.int .i64 d.lot,phR.o k d.phs]⟩
theorem sVol:szOf E.P tV=some 9:=by kernel_rfl
theorem aVol:aggT E.P tV=some true:=by kernel_rfl
theorem sEnt:szOf E.P tE=some 2:=by kernel_rfl
theorem aEnt:aggT E.P tE=some true:=by kernel_rfl
theorem sPhs:szOf E.P tP=some 2:=by kernel_rfl
theorem aPhs:aggT E.P tP=some true:=by kernel_rfl
theorem below_mono:∀ (d:Nat) {n m:Nat} {v:Value},n≤m→below d n v=true→below d m v=true
 | 0,_,_,_,_,h=>absurd h Bool.false_ne_true
 | d+1,n,m,v,hnm,h=>by
  have ih:∀ l:List Value,l.all (below d n)=true→l.all (below d m)=true:=fun l hl=>List.all_eq_true.2 fun x hx=>below_mono d hnm (List.all_eq_true.1 hl x hx)
  unfold below at h ⊢
  split at h
  ·exact decide_eq_true (by have:=of_decide_eq_true h;omega)
  ·exact decide_eq_true (by have:=of_decide_eq_true h;omega)
  ·exact decide_eq_true (by have:=of_decide_eq_true h;omega)
  ·exact ih _ h
  ·exact ih _ h
  ·rfl
  ·rw [Bool.and_eq_true] at h ⊢; exact ⟨ih _ h.1,ih _ h.2⟩
  ·exact below_mono d hnm h
  ·simp_all
theorem belO_mono {n m:Nat} {o:AObj} (hnm:n≤m) (h:belowO n o=true):belowO m o=true:=by
 unfold belowO at h ⊢
 cases o with
 | cells t c g=>exact List.all_eq_true.2 fun x hx=>below_mono _ hnm (List.all_eq_true.1 h x hx)
 | dead=>rfl
 | map es k =>
  refine List.all_eq_true.2 fun x hx=>?_
  have:=List.all_eq_true.1 h x hx
  rw [Bool.and_eq_true] at this ⊢
  exact ⟨below_mono _ hnm this.1,below_mono _ hnm this.2⟩
abbrev nilP:AObj:=.cells tP [.slice none 0 0,.slice none 0 0] 0
def phC (n:Nat) (v:List Vol) (e:List Ent):AObj:=.cells tP [volR.sl (n+2) v,entR.sl (n+3) e] 0
def PH (g:Heap) (v:List Vol) (e:List Ent):Heap:=g++[nilP,phC g.length v e,volR.row tV v,entR.row tE e]
section
variable {g:Heap} {v:List Vol} {e:List Ent}
theorem PH_len:(PH g v e).length=g.length+4:=by unfold PH;rw [List.length_append];rfl
theorem PH_get {b:Nat} (hb:b<g.length):(PH g v e)[b]?=g[b]?:=List.getElem?_append_left hb
theorem PH_set {b:Nat} {o:AObj} (hb:b<g.length):(PH g v e).set b o=PH (g.set b o) v e:=by
 unfold PH
 rw [List.set_append_left _ _ hb,List.length_set]
theorem PH_at {k:Nat} {X:Heap}:(PH g v e++X)[g.length+k]?=([nilP,phC g.length v e,volR.row tV v,entR.row tE e]++X)[k]?:=by
 unfold PH
 rw [List.append_assoc,List.getElem?_append_right (Nat.le_add_right _ _),Nat.add_sub_cancel_left]
theorem PH_put {k:Nat} {o:AObj} {X:Heap}:(PH g v e++X).set (g.length+k) o=g++([nilP,phC g.length v e,volR.row tV v,entR.row tE e]++X).set k o:=by
 unfold PH
 rw [List.append_assoc,List.set_append_right _ _ (Nat.le_add_right _ _),Nat.add_sub_cancel_left]
theorem PH_all (hg:g.all (belowO g.length)=true):(PH g v e).all (belowO (PH g v e).length)=true:=by
 rw [PH_len]
 unfold PH
 rw [List.all_append,Bool.and_eq_true]
 refine ⟨List.all_eq_true.2 fun x hx=>belO_mono (by omega) (List.all_eq_true.1 hg x hx),?_⟩
 have e1:belowO (g.length+4) (phC g.length v e)=true:=by
  have h1:below 8 (g.length+4) (volR.sl (g.length+2) v)=true:=Rec.sl_bel (by omega)
  have h2:below 8 (g.length+4) (entR.sl (g.length+3) e)=true:=Rec.sl_bel (by omega)
  show ([_,_]:List Value).all (below 8 _)=true
  simp only [List.all_cons,List.all_nil,h1,h2,Bool.and_self]
 have e2:belowO (g.length+4) nilP=true:=rfl
 simp only [List.all_cons,List.all_nil,e1,e2,Rec.row_bel,Bool.and_self]
def dd {α:Type} (R:Rec α) (t:TypeId) (l:List α):AObj:=if l.length=0 then R.row t l else .dead
def PD (g:Heap) (v:List Vol) (e:List Ent):Heap:=g++[nilP,.dead,dd volR tV v,dd entR tE e]
theorem PH_frz {lo:Nat} (hlo:lo≤g.length):freezeV E.P depth lo (PH g v e) (.pointer (some ⟨g.length+1,0,none⟩))=some (cptr (.agg ⟨[lst false (volR.vals v),lst false (entR.vals e)]⟩),PD g v e):=by
 have h1:(PH g v e)[g.length+1]?=some (phC g.length v e):=by
  have:=PH_at (g:=g) (v:=v) (e:=e) (k:=1) (X:=[])
  rw [List.append_nil] at this
  exact this
 have hset:(PH g v e).set (g.length+1) .dead=g++[nilP,.dead,volR.row tV v,entR.row tE e]:=by
  have:=PH_put (g:=g) (v:=v) (e:=e) (k:=1) (o:=.dead) (X:=[])
  rw [List.append_nil] at this
  exact this
 have fv:∀ (X Y:AObj),freezeV E.P 7 lo (g++[nilP,X,volR.row tV v,Y]) (volR.sl (g.length+2) v)=some (lst false (volR.vals v),if v.length=0 then g++[nilP,X,volR.row tV v,Y] else g++[nilP,X,.dead,Y]):=fun X Y=>by
  have ho:(g++[nilP,X,volR.row tV v,Y])[g.length+2]?=some (.cells tV (volR.flat v) (8+1)):=by
   rw [List.getElem?_append_right (Nat.le_add_right _ _),Nat.add_sub_cancel_left];rfl
  have:=frz_agg1 (n:=6) (lo:=lo) (l:=volR.vals v) (len:=v.length) (cap:=v.length) (k:=v.length * 9) ho sVol aVol (by omega) (Rec.vals_flat v).symm (Rec.flat_len (R:=volR) (l:=v)).symm Rec.vals_len.symm (by omega) (Rec.vals_agg v) (Rec.flat_set v)
  refine this.trans ?_
  rw [List.set_append_right _ _ (Nat.le_add_right _ _),Nat.add_sub_cancel_left];rfl
 have fe:∀ (X Y:AObj),freezeV E.P 7 lo (g++[nilP,X,Y,entR.row tE e]) (entR.sl (g.length+3) e)=some (lst false (entR.vals e),if e.length=0 then g++[nilP,X,Y,entR.row tE e] else g++[nilP,X,Y,.dead]):=fun X Y=>by
  have ho:(g++[nilP,X,Y,entR.row tE e])[g.length+3]?=some (.cells tE (entR.flat e) (1+1)):=by
   rw [List.getElem?_append_right (Nat.le_add_right _ _),Nat.add_sub_cancel_left];rfl
  have:=frz_agg1 (n:=6) (lo:=lo) (l:=entR.vals e) (len:=e.length) (cap:=e.length) (k:=e.length * 2) ho sEnt aEnt (by omega) (Rec.vals_flat e).symm (Rec.flat_len (R:=entR) (l:=e)).symm Rec.vals_len.symm (by omega) (Rec.vals_agg e) (Rec.flat_set e)
  refine this.trans ?_
  rw [List.set_append_right _ _ (Nat.le_add_right _ _),Nat.add_sub_cancel_left];rfl
 have key:([volR.sl (g.length+2) v,entR.sl (g.length+3) e]:List Value).foldlM (init:=(([]:List Value),g++[nilP,AObj.dead,volR.row tV v,entR.row tE e])) (fun r x=>(freezeV E.P 7 lo r.2 x).map fun y=>(r.1++[y.1],y.2))=some ([lst false (volR.vals v),lst false (entR.vals e)],PD g v e):=by
  simp only [List.foldlM_cons,List.foldlM_nil,fv,Option.map_some,Option.bind_eq_bind,Option.bind_some,List.nil_append]
  unfold PD dd
  by_cases hv:v.length=0
  ·rw [if_pos hv,if_pos hv,fe]
   by_cases he:e.length=0
   ·rw [if_pos he,if_pos he];rfl
   ·rw [if_neg he,if_neg he];rfl
  ·rw [if_neg hv,if_neg hv,fe]
   by_cases he:e.length=0
   ·rw [if_pos he,if_pos he];rfl
   ·rw [if_neg he,if_neg he];rfl
 rw [frz_ptr8 (t:=tP) h1 sPhs aPhs (by omega),hset,if_neg (by simp [Rec.sl,settled])]
 exact congrArg (Option.map fun r=>(cptr (.agg ⟨r.1⟩),r.2)) key
def PR (g:Heap) (v:List Vol) (e:List Ent):Heap:=g++[.cells tP [lst false (volR.vals v),lst false (entR.vals e)] 0,.dead,dd volR tV v,dd entR tE e]
theorem PD_put {lo:Nat} (hlo:lo≤g.length):storeT (some 2) (PD g v e) lo (.agg ⟨[lst false (volR.vals v),lst false (entR.vals e)]⟩) (.pointer (some ⟨g.length,0,none⟩))=some (PR g v e):=by
 have ho:(PD g v e)[g.length]?=some (.cells tP [.slice none 0 0,.slice none 0 0] 0):=by unfold PD;rw [List.getElem?_append_right (Nat.le_refl _),Nat.sub_self];rfl
 have:=obj_put (n:=2) (lo:=lo) (d:=[lst false (volR.vals v),lst false (entR.vals e)]) ho rfl rfl (by decide) hlo
 unfold cAt at this
 rw [this]
 unfold PD PR
 rw [List.set_append_right _ _ (Nat.le_refl _),Nat.sub_self];rfl
theorem PR_get:loadT ⟨some true,some 2⟩ (PR g v e) (.pointer (some ⟨g.length,0,none⟩))=some (.agg ⟨[lst false (volR.vals v),lst false (entR.vals e)]⟩):=by
 have ho:(PR g v e)[g.length]?=some (.cells tP [lst false (volR.vals v),lst false (entR.vals e)] 0):=by unfold PR;rw [List.getElem?_append_right (Nat.le_refl _),Nat.sub_self];rfl
 exact obj_all (n:=2) ho rfl
theorem PR_len:(PR g v e).length=g.length+4:=by unfold PR;rw [List.length_append];rfl
end
end Go.Proofs.YtplebjehcgcdeaaGreatDoor.Bm
namespace Go.Proofs.YtplebjehcgcdeaaGreatDoor.Bm
open Go Go.RowKit
open Dw (RS Vol Ent Phs Drw numS textS numsS volsL givesL phaseS okNums volOf)
theorem nc1 {h:Heap} {lo:Nat} (hlo:lo≤h.length) (σ:Slots):newcK E.P lo (h++[nilP,nilP]) σ 0 tV (.pointer (some ⟨h.length+1,0,none⟩))=some (σ,h++[nilP,.cells tP [volR.sl (h.length+2) [],.slice none 0 0] 0,volR.row tV []]):=by
 have ho:(h++[nilP,nilP])[h.length+1]?=some (.cells tP [.slice none 0 0,.slice none 0 0] 0):=by
  rw [List.getElem?_append_right (Nat.le_add_right _ _),Nat.add_sub_cancel_left];rfl
 have:=newcK_cell (P:=E.P) (σ:=σ) (lo:=lo) (t:=tV) (d:=0) (off:=0) (n:=8) (sp:=none) (c:=[.slice none 0 0,.slice none 0 0]) ho rfl sVol (by omega)
 rw [this,List.set_append_right _ _ (Nat.le_add_right _ _),Nat.add_sub_cancel_left,List.append_assoc,List.length_append];rfl
theorem nc2 {h:Heap} {lo:Nat} (hlo:lo≤h.length) (σ:Slots):newcK E.P lo (h++[nilP,.cells tP [volR.sl (h.length+2) [],.slice none 0 0] 0,volR.row tV []]) σ 1 tE (.pointer (some ⟨h.length+1,0,none⟩))=some (σ,PH h [] []):=by
 have ho:(h++[nilP,.cells tP [volR.sl (h.length+2) [],.slice none 0 0] 0,volR.row tV []])[h.length+1]?=some (.cells tP [volR.sl (h.length+2) [],.slice none 0 0] 0):=by
  rw [List.getElem?_append_right (Nat.le_add_right _ _),Nat.add_sub_cancel_left];rfl
 have:=newcK_cell (P:=E.P) (σ:=σ) (lo:=lo) (t:=tE) (d:=1) (off:=0) (n:=1) (sp:=none) (c:=[volR.sl (h.length+2) [],.slice none 0 0]) ho rfl sEnt (by omega)
 rw [this,List.set_append_right _ _ (Nat.le_add_right _ _),Nat.add_sub_cancel_left,List.append_assoc,List.length_append];rfl
theorem numsS_bad {s:RS} (h:(numsS s).2.2=true):(numsS s).1=[]:=by
 unfold numsS at h ⊢
 simp only at h ⊢
 split
 ·rfl
 ·rename_i q
  rw [if_neg q] at h
  exact absurd h q
theorem numsS_ok (s:RS):Enc.Ok (kd (numsS s).2.2) (numsS s).1:=by
 intro hk
 unfold kd at hk
 split at hk
 ·exact numsS_bad ‹_›
 ·cases hk
theorem bel_n (n b:Nat) (hb:b<n):below 8 n (.pointer (some ⟨b,0,none⟩))=true:=decide_eq_true hb
theorem lit_vol (h:Heap) (v:Vol):buildSliceT (some ⟨tV,9,72,.agg ⟨[.int .i64 0,.int .i64 0,.int .i64 0,.int .i64 0,.int .i64 0,.int .i64 0,.int .i64 0,.int .i64 0,.bool false]⟩,⟨some true,some 9⟩⟩) false h 1 #[(0,.agg ⟨volR.enc v⟩)]=some (lst true (volR.vals [v]),h) :=
 (build_lit' (n:=1) (l:=[(0,.agg ⟨volR.enc v⟩)]) rfl rfl (by decide) (by decide) (by decide)).trans rfl
theorem lit_ent (h:Heap) (e:Ent):buildSliceT (some ⟨tE,2,24,.agg ⟨[.string ⟨⟨[]⟩⟩,.int .i64 0]⟩,⟨some true,some 2⟩⟩) false h 1 #[(0,.agg ⟨entR.enc e⟩)]=some (lst true (entR.vals [e]),h) :=
 (build_lit' (n:=1) (l:=[(0,.agg ⟨entR.enc e⟩)]) rfl rfl (by decide) (by decide) (by decide)).trans rfl
section
variable {g:Heap} {v:List Vol} {e:List Ent} {lo:Nat}
theorem PH_appV {X:Heap} (x:Vol) (hlo:lo≤g.length) (hv:v.length≤1000):appendT (some ⟨tV,9,72,.agg ⟨[.int .i64 0,.int .i64 0,.int .i64 0,.int .i64 0,.int .i64 0,.int .i64 0,.int .i64 0,.int .i64 0,.bool false]⟩,⟨some true,some 9⟩⟩) (PH g v e++X) lo false (volR.sl (g.length+2) v) (lst true (volR.vals [x])) =
  some (volR.sl (g.length+2) (v++[x]),g++[nilP,phC g.length v e,volR.row tV (v++[x]),entR.row tE e]++X):=by
 have:=Rec.app (R:=volR) (m:=[x]) (lo:=lo) (h:=PH g v e++X) (b:=g.length+2) (acc:=v) (t:=tV) (u:=lst true (volR.vals [x])) (el:=⟨tV,9,72,.agg ⟨[.int .i64 0,.int .i64 0,.int .i64 0,.int .i64 0,.int .i64 0,.int .i64 0,.int .i64 0,.int .i64 0,.bool false]⟩,⟨some true,some 9⟩⟩) rfl (by rw [PH_at];rfl) (Rec.cells_tree (R:=volR) rfl [x]) (by omega) (by show (v.length+1) * 72≤2 ^ 47;omega)
 rw [this,PH_put,List.append_assoc];rfl
theorem PH_stV {X:Heap} {v':List Vol} (hlo:lo≤g.length):storeT (some 1) (g++[nilP,phC g.length v e,volR.row tV v',entR.row tE e]++X) lo (volR.sl (g.length+2) v') (.pointer (some ⟨g.length+1,0,none⟩))=some (PH g v' e++X):=by
 have ho:(g++[nilP,phC g.length v e,volR.row tV v',entR.row tE e]++X)[g.length+1]?=some (phC g.length v e):=by rw [List.append_assoc,List.getElem?_append_right (Nat.le_add_right _ _),Nat.add_sub_cancel_left];rfl
 have:=obj_store (j:=0) (lo:=lo) (v:=volR.sl (g.length+2) v') ho (by simp) (by omega) rfl
 unfold cAt at this
 rw [this,List.append_assoc,List.set_append_right _ _ (Nat.le_add_right _ _),Nat.add_sub_cancel_left]
 unfold PH
 rw [List.append_assoc];rfl
theorem PH_appE {X:Heap} (x:Ent) (hlo:lo≤g.length) (he:e.length≤1000):appendT (some ⟨tE,2,24,.agg ⟨[.string ⟨⟨[]⟩⟩,.int .i64 0]⟩,⟨some true,some 2⟩⟩) (PH g v e++X) lo false (entR.sl (g.length+3) e) (lst true (entR.vals [x])) =
  some (entR.sl (g.length+3) (e++[x]),g++[nilP,phC g.length v e,volR.row tV v,entR.row tE (e++[x])]++X):=by
 have:=Rec.app (R:=entR) (m:=[x]) (lo:=lo) (h:=PH g v e++X) (b:=g.length+3) (acc:=e) (t:=tE) (u:=lst true (entR.vals [x])) (el:=⟨tE,2,24,.agg ⟨[.string ⟨⟨[]⟩⟩,.int .i64 0]⟩,⟨some true,some 2⟩⟩) rfl (by rw [PH_at];rfl) (Rec.cells_tree (R:=entR) rfl [x]) (by omega) (by show (e.length+1) * 24≤2 ^ 47;omega)
 rw [this,PH_put,List.append_assoc];rfl
theorem PH_stE {X:Heap} {e':List Ent} (hlo:lo≤g.length):storeT (some 1) (g++[nilP,phC g.length v e,volR.row tV v,entR.row tE e']++X) lo (entR.sl (g.length+3) e') (.pointer (some ⟨g.length+1,1,none⟩))=some (PH g v e'++X):=by
 have ho:(g++[nilP,phC g.length v e,volR.row tV v,entR.row tE e']++X)[g.length+1]?=some (phC g.length v e):=by rw [List.append_assoc,List.getElem?_append_right (Nat.le_add_right _ _),Nat.add_sub_cancel_left];rfl
 have:=obj_store (j:=1) (lo:=lo) (v:=entR.sl (g.length+3) e') ho (by simp) (by omega) rfl
 unfold cAt at this
 rw [this,List.append_assoc,List.set_append_right _ _ (Nat.le_add_right _ _),Nat.add_sub_cancel_left]
 unfold PH
 rw [List.append_assoc];rfl
theorem PH_ldV {X:Heap} {sz:Option Nat}:loadT ⟨some false,sz⟩ (PH g v e++X) (.pointer (some ⟨g.length+1,0,none⟩))=some (volR.sl (g.length+2) v) :=
 obj_load (j:=0) (t:=tP) (c:=[volR.sl (g.length+2) v,entR.sl (g.length+3) e]) (by rw [PH_at];rfl) rfl
theorem PH_ldE {X:Heap} {sz:Option Nat}:loadT ⟨some false,sz⟩ (PH g v e++X) (.pointer (some ⟨g.length+1,1,none⟩))=some (entR.sl (g.length+3) e) :=
 obj_load (j:=1) (t:=tP) (c:=[volR.sl (g.length+2) v,entR.sl (g.length+3) e]) (by rw [PH_at];rfl) rfl
theorem PH_trim {X:Heap} {σ:List Value} {n:Nat} (hn:n=g.length+4) (hX:X≠[]) (hg:g.all (belowO g.length)=true) (hσ:σ.all (below 8 (g.length+4))=true):trim n σ (PH g v e++X)=PH g v e:=by
 subst hn
 have e1:(PH g v e++X).take (g.length+4)=PH g v e:=List.take_left' PH_len
 have e2:¬ (PH g v e++X).length≤g.length+4:=by
  rw [List.length_append,PH_len]
  have:=List.length_pos_iff.2 hX
  omega
 have:=PH_all (v:=v) (e:=e) hg
 rw [PH_len] at this
 rw [trim_cut e2 hσ (by rw [e1];exact this),e1]
end
section
variable {a0 a1 a2 a3 a4 a5 a6 a7 a8:Int}
abbrev nine (a0 a1 a2 a3 a4 a5 a6 a7 a8:Int):Value:=intE.o (some false) [a0,a1,a2,a3,a4,a5,a6,a7,a8]
theorem nine0:indexAddrT (.sl 3 ⟨some false,some 1⟩) (nine a0 a1 a2 a3 a4 a5 a6 a7 a8) (.int .i64 0)=some (cptr (.int .i64 a0)):=rfl
theorem nine1:indexAddrT (.sl 3 ⟨some false,some 1⟩) (nine a0 a1 a2 a3 a4 a5 a6 a7 a8) (.int .i64 1)=some (cptr (.int .i64 a1)):=rfl
theorem nine2:indexAddrT (.sl 3 ⟨some false,some 1⟩) (nine a0 a1 a2 a3 a4 a5 a6 a7 a8) (.int .i64 2)=some (cptr (.int .i64 a2)):=rfl
theorem nine3:indexAddrT (.sl 3 ⟨some false,some 1⟩) (nine a0 a1 a2 a3 a4 a5 a6 a7 a8) (.int .i64 3)=some (cptr (.int .i64 a3)):=rfl
theorem nine4:indexAddrT (.sl 3 ⟨some false,some 1⟩) (nine a0 a1 a2 a3 a4 a5 a6 a7 a8) (.int .i64 4)=some (cptr (.int .i64 a4)):=rfl
theorem nine5:indexAddrT (.sl 3 ⟨some false,some 1⟩) (nine a0 a1 a2 a3 a4 a5 a6 a7 a8) (.int .i64 5)=some (cptr (.int .i64 a5)):=rfl
theorem nine6:indexAddrT (.sl 3 ⟨some false,some 1⟩) (nine a0 a1 a2 a3 a4 a5 a6 a7 a8) (.int .i64 6)=some (cptr (.int .i64 a6)):=rfl
theorem nine7:indexAddrT (.sl 3 ⟨some false,some 1⟩) (nine a0 a1 a2 a3 a4 a5 a6 a7 a8) (.int .i64 7)=some (cptr (.int .i64 a7)):=rfl
theorem nine8:indexAddrT (.sl 3 ⟨some false,some 1⟩) (nine a0 a1 a2 a3 a4 a5 a6 a7 a8) (.int .i64 8)=some (cptr (.int .i64 a8)):=rfl
theorem nine_len {h:Heap}:lenT .sl h (nine a0 a1 a2 a3 a4 a5 a6 a7 a8)=some (.int .i64 9):=rfl
theorem bld4:buildT (.fs ⟨[.int .i64 0,.int .i64 0,.int .i64 0,.int .i64 0]⟩ ⟨[(0,1),(1,1),(2,1),(3,1)]⟩) #[(0,.int .i64 a0),(1,.int .i64 a1),(2,.int .i64 a2),(3,.int .i64 a3)]=some (.agg ⟨[.int .i64 a0,.int .i64 a1,.int .i64 a2,.int .i64 a3]⟩):=by kernel_rfl
theorem bld6:buildT (.fs ⟨[.int .i64 0,.int .i64 0,.int .i64 0,.int .i64 0,.int .i64 0,.int .i64 0]⟩ ⟨[(0,4),(4,1),(5,1)]⟩) #[(0,.agg ⟨[.int .i64 a0,.int .i64 a1,.int .i64 a2,.int .i64 a3]⟩),(1,.int .i64 a4),(2,.int .i64 a5)]=some (.agg ⟨[.int .i64 a0,.int .i64 a1,.int .i64 a2,.int .i64 a3,.int .i64 a4,.int .i64 a5]⟩):=by kernel_rfl
theorem bld9 {x:Bool}:buildT (.fs ⟨[.int .i64 0,.int .i64 0,.int .i64 0,.int .i64 0,.int .i64 0,.int .i64 0,.int .i64 0,.int .i64 0,.bool false]⟩ ⟨[(0,6),(6,1),(7,1),(8,1)]⟩) #[(0,.agg ⟨[.int .i64 a0,.int .i64 a1,.int .i64 a2,.int .i64 a3,.int .i64 a4,.int .i64 a5]⟩),(1,.int .i64 a6),(2,.int .i64 a7),(3,.bool x)]=some (.agg ⟨volR.enc ⟨a0,a1,a2,a3,a4,a5,a6,a7,x⟩⟩):=by cases x <;> kernel_rfl
theorem bldE {s:ByteArray} {z:Int}:buildT (.fs ⟨[.string ⟨⟨[]⟩⟩,.int .i64 0]⟩ ⟨[(0,1),(1,1)]⟩) #[(0,.string s),(1,.int .i64 z)]=some (.agg ⟨[.string s,.int .i64 z]⟩):=by kernel_rfl
end
section
variable {g:Heap} {lo:Nat} {t:TypeId} {c d:List Value} {n:Nat}
theorem snoc_put (hc:c.length=n) (hd:d.length=n) (h0:0<n) (hlo:lo≤g.length):storeT (some n) (g++[.cells t c 0]) lo (.agg ⟨d⟩) (.pointer (some ⟨g.length,0,none⟩))=some (g++[.cells t d 0]):=by
 have ho:(g++[AObj.cells t c 0])[g.length]?=some (.cells t c 0):=by rw [List.getElem?_append_right (Nat.le_refl _),Nat.sub_self];rfl
 have:=obj_put (n:=n) (lo:=lo) (d:=d) ho hc hd h0 hlo
 unfold cAt at this
 rw [this,List.set_append_right _ _ (Nat.le_refl _),Nat.sub_self];rfl
theorem snoc_all (hc:c.length=n):loadT ⟨some true,some n⟩ (g++[.cells t c 0]) (.pointer (some ⟨g.length,0,none⟩))=some (.agg ⟨c⟩):=by
 have ho:(g++[AObj.cells t c 0])[g.length]?=some (.cells t c 0):=by rw [List.getElem?_append_right (Nat.le_refl _),Nat.sub_self];rfl
 exact obj_all (n:=n) ho hc
end
theorem phC_same {n:Nat} {v:List Vol} {e:List Ent}:sameO (some (phC n v e)) (some (phC n v e))=true:=sameO_two
theorem phC_bel {n:Nat} {v:List Vol} {e:List Ent}:belowO (n+4) (phC n v e)=true:=by
 have h1:below 8 (n+4) (volR.sl (n+2) v)=true:=Rec.sl_bel (by omega)
 have h2:below 8 (n+4) (entR.sl (n+3) e)=true:=Rec.sl_bel (by omega)
 show ([_,_]:List Value).all (below 8 _)=true
 simp only [List.all_cons,List.all_nil,h1,h2,Bool.and_self]
theorem PH_cell {g:Heap} {v:List Vol} {e:List Ent}:(PH g v e)[g.length+1]?=some (phC g.length v e):=by
 have:=PH_at (g:=g) (v:=v) (e:=e) (k:=1) (X:=[])
 rw [List.append_nil] at this
 exact this
end Go.Proofs.YtplebjehcgcdeaaGreatDoor.Bm
