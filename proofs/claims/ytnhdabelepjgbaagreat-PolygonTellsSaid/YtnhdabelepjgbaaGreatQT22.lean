/-
 More is known of some functions: what the machine did before it does still. Conditions: what was known is known.
-/
import Derived.Test.YtnhdabelepjgbaaGreatQT21
import Derived.Test.YtnhdabelepjgbaaGreatQT16
import Derived.Test.YtnhdabelepjgbaaGreatQT17
namespace Go.Proofs.YtnhdabelepjgbaaGreat.Rg
open Bm (sortI sortI_perm sortI_sorted sortI_len)
def par:List Bool→Bool
 | []=>false
 | b :: l=>(b != par l)
theorem par_perm {l m:List Bool} (h:l.Perm m):par l=par m:=by
 induction h with
 | nil=>rfl
 | cons a _ ih=>show (a != par _)=(a != par _);rw [ih]
 | swap a b l=>show (b != (a != par l))=(a != (b != par l));cases a <;> cases b <;> cases par l <;> rfl
 | trans _ _ h1 h2=>exact h1.trans h2
theorem par_xor {α:Type} (f g:α→Bool):∀ l:List α,par (l.map fun a=>(f a != g a))=(par (l.map f) != par (l.map g))
 | []=>rfl
 | a :: l=>by
  show ((f a != g a) != par _)=((f a != par _) != (g a != par _))
  rw [par_xor f g l]
  cases f a <;> cases g a <;> cases par (l.map f) <;> cases par (l.map g) <;> rfl
theorem par_filter {α:Type} (f g:α→Bool):∀ l:List α,par ((l.filter f).map g)=par (l.map fun a=>f a && g a)
 | []=>rfl
 | a :: l=>by
  show _=((f a && g a) != par _)
  cases h:f a
  ·rw [List.filter_cons_of_neg (by simp [h]),par_filter f g l,Bool.false_and,Bool.false_bne]
  ·rw [List.filter_cons_of_pos h,List.map_cons,Bool.true_and]
   show (g a != par _)=_
   rw [par_filter f g l]
theorem par_len {α:Type} (f:α→Bool):∀ l:List α,par (l.map f)=decide ((l.filter f).length % 2=1)
 | []=>rfl
 | a :: l=>by
  have ih:=par_len f l
  show (f a != par (l.map f))=_
  rw [ih]
  cases h:f a
  ·rw [List.filter_cons_of_neg (by simp [h]),Bool.false_bne]
  ·rw [List.filter_cons_of_pos h,List.length_cons,Bool.true_bne]
   by_cases q:(l.filter f).length % 2=1
   ·rw [decide_eq_true q]
    exact (decide_eq_false (by omega)).symm
   ·rw [decide_eq_false q]
    exact (decide_eq_true (by omega)).symm
theorem par_false {α:Type} {f:α→Bool}:∀ {l:List α},(∀ a∈l,f a=false)→par (l.map f)=false
 | [],_=>rfl
 | a :: l,h=>by
  show (f a != par _)=false
  rw [h a (List.mem_cons_self ..),par_false fun b hb=>h b (List.mem_cons_of_mem _ hb)];rfl
theorem map_ext {α β:Type} {f g:α→β} {l:List α} (h:∀ a∈l,f a=g a):l.map f=l.map g:=List.map_congr_left h
abbrev Pt:=Int × Int
def sidesP (p:List Pt):List (Pt × Pt):=p.zip (p.drop 1++p.take 1)
theorem path_par (f:Pt→Bool):∀ (l:List Pt) (a z:Pt),par (((a :: l).zip (l++[z])).map fun s=>(f s.1 != f s.2))=(f a != f z)
 | [],a,z=>by show ((f a != f z) != false)=_;cases f a <;> cases f z <;> rfl
 | b :: l,a,z=>by
  have ih:=path_par f l b z
  show ((f a != f b) != par (((b :: l).zip (l++[z])).map fun s=>(f s.1 != f s.2)))=_
  rw [ih]
  cases f a <;> cases f b <;> cases f z <;> rfl
theorem sides_par (f:Pt→Bool) (p:List Pt):par ((sidesP p).map fun s=>(f s.1 != f s.2))=false:=by
 cases p with
 | nil=>rfl
 | cons a l =>
  have:=path_par f l a a
  show par (((a :: l).zip (l++[a])).map fun s=>(f s.1 != f s.2))=false
  rw [this];cases f a <;> rfl
theorem sides_len (p:List Pt):(sidesP p).length=p.length:=by
 unfold sidesP
 cases p with
 | nil=>rfl
 | cons a l=>simp
theorem sides_get {p:List Pt} {i:Nat} (h:i<p.length):(sidesP p)[i]'(by rw [sides_len];exact h)=(p[i],p[(i+1) % p.length]'(Nat.mod_lt _ (by omega))):=by
 unfold sidesP
 rw [List.getElem_zip]
 congr 1
 by_cases hl:i+1<p.length
 ·rw [List.getElem_append_left (by rw [List.length_drop];omega),List.getElem_drop]
  congr 1
  rw [Nat.mod_eq_of_lt hl];omega
 ·have e:i+1=p.length:=by omega
  rw [List.getElem_append_right (by rw [List.length_drop];omega),List.getElem_take]
  congr 1
  rw [e,Nat.mod_self,List.length_drop];omega
theorem sides_mem {p:List Pt} {s:Pt × Pt} (h:s∈sidesP p):s.1∈p∧s.2∈p:=by
 obtain ⟨i,hi,rfl⟩:=List.getElem_of_mem h
 rw [sides_len] at hi
 rw [sides_get hi]
 exact ⟨List.getElem_mem _,List.getElem_mem _⟩
def hB (x:Int) (s:Pt × Pt):Bool:=decide (min s.1.1 s.2.1≤x) && decide (x<max s.1.1 s.2.1)
theorem hB_iff {x:Int} {s:Pt × Pt}:hB x s=true↔min s.1.1 s.2.1≤x∧x<max s.1.1 s.2.1:=by
 unfold hB;rw [Bool.and_eq_true,decide_eq_true_eq,decide_eq_true_eq]
theorem hB_xor (x:Int) (s:Pt × Pt):hB x s=(decide (s.1.1≤x) != decide (s.2.1≤x)):=by
 unfold hB
 by_cases h1:s.1.1≤x <;> by_cases h2:s.2.1≤x
 ·rw [decide_eq_true h1,decide_eq_true h2,decide_eq_false (show ¬ (x<max s.1.1 s.2.1) by omega),Bool.and_false];rfl
 ·rw [decide_eq_true h1,decide_eq_false h2,decide_eq_true (show min s.1.1 s.2.1≤x by omega),decide_eq_true (show x<max s.1.1 s.2.1 by omega)];rfl
 ·rw [decide_eq_false h1,decide_eq_true h2,decide_eq_true (show min s.1.1 s.2.1≤x by omega),decide_eq_true (show x<max s.1.1 s.2.1 by omega)];rfl
 ·rw [decide_eq_false h1,decide_eq_false h2,decide_eq_false (show ¬ (min s.1.1 s.2.1≤x) by omega),Bool.false_and];rfl
def ysP (p:List Pt) (x:Int):List Int:=((sidesP p).filter (hB x)).map fun s=>s.1.2
theorem ys_even (p:List Pt) (x:Int):(ysP p x).length % 2=0:=by
 have h:=sides_par (fun v=>decide (v.1≤x)) p
 have e:(sidesP p).map (fun s=>(decide (s.1.1≤x) != decide (s.2.1≤x)))=(sidesP p).map (hB x):=map_ext fun s _=>(hB_xor x s).symm
 rw [e,par_len] at h
 have h:=of_decide_eq_false h
 unfold ysP
 rw [List.length_map];omega
def colY (p:List Pt) (x:Int):List (Int × Int):=pairs (sortI (ysP p x))
def polyL (p:List Pt):List Rect:=outT (stripL (colY p) (sortU (p.map (·.1))))
def polyS (p:List Pt) (x y:Int):Bool:=par ((sidesP p).map fun s=>hB x s && decide (s.1.2≤y))
theorem hasS_pairs:∀ {l:List Int} (y:Int),l.Pairwise (· < ·)→l.length % 2=0→hasS (pairs l) y=par (l.map fun z=>decide (z≤y))
 | [],y,_,_=>rfl
 | [_],y,_,h=>by simp at h
 | f :: t :: l,y,hp,h=>by
  rw [List.pairwise_cons,List.pairwise_cons] at hp
  have ih:=hasS_pairs (l:=l) y hp.2.2 (by simp at h;omega)
  show (decide (f≤y) && decide (y<t) || hasS (pairs l) y)=(decide (f≤y) != (decide (t≤y) != par (l.map fun z=>decide (z≤y))))
  have hft:=hp.1 t (List.mem_cons_self ..)
  by_cases h1:t≤y
  ·rw [decide_eq_true h1,decide_eq_true (show f≤y by omega),decide_eq_false (show ¬ (y<t) by omega),Bool.and_false,Bool.false_or,ih]
   cases par (l.map fun z=>decide (z≤y)) <;> rfl
  ·have h0:par (l.map fun z=>decide (z≤y))=false:=par_false fun z hz=>decide_eq_false (by have:=hp.2.1 z hz;omega)
   rw [ih,h0,decide_eq_false h1,decide_eq_true (show y<t by omega),Bool.and_true,Bool.or_false]
   cases decide (f≤y) <;> rfl
def crossB (s t:Pt × Pt):Bool :=
 decide (max (min s.1.1 s.2.1) (min t.1.1 t.2.1)≤min (max s.1.1 s.2.1) (max t.1.1 t.2.1)) && decide (max (min s.1.2 s.2.2) (min t.1.2 t.2.2)≤min (max s.1.2 s.2.2) (max t.1.2 t.2.2))
def onG (a:Pt):Prop:=0≤a.1∧a.1≤1048576∧0≤a.2∧a.2≤1048576
def upS (s:Pt × Pt):Bool:=decide (s.1.1=s.2.1)
structure Poly (p:List Pt):Prop where
 len:4≤p.length
 grid:∀ v∈p,onG v
 straight:∀ s∈sidesP p,decide (s.1.1=s.2.1)≠decide (s.1.2=s.2.2)
 turns:∀ i (h:i<(sidesP p).length),upS (sidesP p)[i]≠upS ((sidesP p)[(i+1) % (sidesP p).length]'(Nat.mod_lt _ (by omega)))
 apart:∀ i k (hi:i<(sidesP p).length) (hk:k<(sidesP p).length),i+2≤k→1<i+(sidesP p).length-k→crossB (sidesP p)[i] (sidesP p)[k]=false
theorem Poly.flat {p:List Pt} (h:Poly p) {s:Pt × Pt} (hs:s∈sidesP p) (hx:s.1.1≠s.2.1):s.1.2=s.2.2:=by
 have:=h.straight s hs
 rw [decide_eq_false hx] at this
 by_cases q:s.1.2=s.2.2
 ·exact q
 ·rw [decide_eq_false q] at this;exact absurd rfl this
theorem Poly.lone {p:List Pt} (h:Poly p) {i k:Nat} (hi:i<(sidesP p).length) (hk:k<(sidesP p).length) (hik:i<k) (ui:upS (sidesP p)[i]=false) (uk:upS (sidesP p)[k]=false):crossB (sidesP p)[i] (sidesP p)[k]=false:=by
 by_cases h1:k=i+1
 ·subst h1
  have:=h.turns i hi
  rw [ui] at this
  simp only [Nat.mod_eq_of_lt hk] at this
  rw [uk] at this
  exact absurd rfl this
 by_cases h2:1<i+(sidesP p).length-k
 ·exact h.apart i k hi hk (by omega) h2
 ·have e0:i=0:=by omega
  have e1:k+1=(sidesP p).length:=by omega
  subst e0
  have:=h.turns k hk
  rw [uk] at this
  simp only [e1,Nat.mod_self] at this
  rw [ui] at this
  exact absurd rfl this
theorem cross_true {s t:Pt × Pt} {x y:Int} (h1:min s.1.1 s.2.1≤x) (h2:x≤max s.1.1 s.2.1) (h3:min t.1.1 t.2.1≤x) (h4:x≤max t.1.1 t.2.1)
  (h5:min s.1.2 s.2.2≤y) (h6:y≤max s.1.2 s.2.2) (h7:min t.1.2 t.2.2≤y) (h8:y≤max t.1.2 t.2.2):crossB s t=true:=by
 unfold crossB
 rw [Bool.and_eq_true,decide_eq_true_eq,decide_eq_true_eq]
 omega
theorem cross_comm (s t:Pt × Pt):crossB s t=crossB t s:=by
 unfold crossB
 rw [Int.max_comm (min s.1.1 s.2.1),Int.min_comm (max s.1.1 s.2.1),Int.max_comm (min s.1.2 s.2.2),Int.min_comm (max s.1.2 s.2.2)]
theorem Poly.same {p:List Pt} (h:Poly p) {i k:Nat} (hi:i<(sidesP p).length) (hk:k<(sidesP p).length) (ui:(sidesP p)[i].1.1≠(sidesP p)[i].2.1) (uk:(sidesP p)[k].1.1≠(sidesP p)[k].2.1) {x:Int}
  (h1:min (sidesP p)[i].1.1 (sidesP p)[i].2.1≤x) (h2:x≤max (sidesP p)[i].1.1 (sidesP p)[i].2.1) (h3:min (sidesP p)[k].1.1 (sidesP p)[k].2.1≤x) (h4:x≤max (sidesP p)[k].1.1 (sidesP p)[k].2.1) (hy:(sidesP p)[i].1.2=(sidesP p)[k].1.2):i=k:=by
 have fi:=h.flat (List.getElem_mem hi) ui
 have fk:=h.flat (List.getElem_mem hk) uk
 have c:=cross_true (s:=(sidesP p)[i]) (t:=(sidesP p)[k]) (x:=x) (y:=(sidesP p)[i].1.2) h1 h2 h3 h4 (by omega) (by omega) (by omega) (by omega)
 have vi:upS (sidesP p)[i]=false:=decide_eq_false ui
 have vk:upS (sidesP p)[k]=false:=decide_eq_false uk
 rcases Nat.lt_trichotomy i k with q | q | q
 ·rw [h.lone hi hk q vi vk] at c;cases c
 ·exact q
 ·rw [cross_comm,h.lone hk hi q vk vi] at c;cases c
theorem filter_nodup {α β:Type} {l:List α} {q:α→Bool} {g:α→β} (h:∀ i k (hi:i<l.length) (hk:k<l.length),q l[i]=true→q l[k]=true→g l[i]=g l[k]→i=k):((l.filter q).map g).Pairwise (·≠·):=by
 induction l with
 | nil=>exact .nil
 | cons a l ih =>
  have ih:=ih fun i k hi hk h1 h2 h3=>by
   have:=h (i+1) (k+1) (by simp;omega) (by simp;omega) (by simpa using h1) (by simpa using h2) (by simpa using h3)
   omega
  cases hq:q a
  ·rw [List.filter_cons_of_neg (by simp [hq])];exact ih
  ·rw [List.filter_cons_of_pos hq,List.map_cons,List.pairwise_cons]
   refine ⟨fun b hb e=>?_,ih⟩
   obtain ⟨c,hc,rfl⟩:=List.mem_map.1 hb
   obtain ⟨hc,hqc⟩:=List.mem_filter.1 hc
   obtain ⟨i,hi,rfl⟩:=List.getElem_of_mem hc
   have:=h 0 (i+1) (by simp) (by simp;omega) (by simpa using hq) (by simpa using hqc) (by simpa using e)
   omega
theorem Poly.ys_nodup {p:List Pt} (h:Poly p) (x:Int):(ysP p x).Pairwise (·≠·) :=
 filter_nodup fun i k hi hk h1 h2 h3=>by
  rw [hB_iff] at h1 h2
  exact h.same hi hk (by omega) (by omega) (x:=x) (by omega) (by omega) (by omega) (by omega) h3
theorem strict {l:List Int} (h1:l.Pairwise (·≤·)) (h2:l.Pairwise (·≠·)):l.Pairwise (· < ·):=by
 induction l with
 | nil=>exact .nil
 | cons a l ih =>
  rw [List.pairwise_cons] at *
  exact ⟨fun b hb=>by have:=h1.1 b hb;have:=h2.1 b hb;omega,ih h1.2 h2.2⟩
theorem Poly.sorted {p:List Pt} (h:Poly p) (x:Int):(sortI (ysP p x)).Pairwise (· < ·) :=
 strict (sortI_sorted _) ((sortI_perm _).symm.pairwise (h.ys_nodup x) fun h=>fun e=>h e.symm)
theorem Poly.has {p:List Pt} (h:Poly p) (x y:Int):hasS (colY p x) y=polyS p x y:=by
 unfold colY
 rw [hasS_pairs y (h.sorted x) (by rw [sortI_len];exact ys_even p x),par_perm ((sortI_perm (ysP p x)).map _)]
 unfold ysP polyS
 rw [List.map_map]
 exact par_filter (hB x) (fun s=>decide (s.1.2≤y)) (sidesP p)
theorem pairs_len:∀ l:List Int,2 * (pairs l).length≤l.length
 | []=>Nat.le_refl _
 | [_]=>Nat.zero_le _
 | f :: t :: l=>by
  have:=pairs_len l
  show 2 * ((pairs l).length+1)≤l.length+1+1
  omega
theorem ys_len (p:List Pt) (x:Int):(ysP p x).length≤p.length:=by
 unfold ysP
 rw [List.length_map]
 exact Nat.le_trans (List.length_filter_le _ _) (Nat.le_of_eq (sides_len p))
theorem colY_len (p:List Pt) (x:Int):2 * (colY p x).length≤p.length:=by
 have h1:=pairs_len (sortI (ysP p x))
 have h2:=ys_len p x
 rw [sortI_len] at h1
 exact Nat.le_trans h1 h2
theorem insU_len (z:Int):∀ l:List Int,(insU z l).length≤l.length+1
 | []=>Nat.le_refl _
 | a :: l=>by
  unfold insU
  have ih:=insU_len z l
  split
  ·exact Nat.le_refl _
  ·split
   ·exact Nat.le_succ _
   ·show (insU z l).length+1≤_;exact Nat.succ_le_succ ih
theorem sortU_le:∀ l:List Int,(sortU l).length≤l.length
 | []=>Nat.le_refl _
 | z :: l=>Nat.le_trans (insU_len z _) (Nat.succ_le_succ (sortU_le l))
end Go.Proofs.YtnhdabelepjgbaaGreat.Rg
namespace Go.Proofs.YtnhdabelepjgbaaGreat.Rg
open Bm (sortI insI)
def allFr (f:Nat→Bool):Nat→Nat→Bool
 | _,0=>true
 | i,k+1=>f i && allFr f (i+1) k
theorem allFr_true {f:Nat→Bool}:∀ {k i:Nat},allFr f i k=true↔∀ j,i≤j→j<i+k→f j=true
 | 0,i=>⟨fun _ j h1 h2=>by omega,fun _=>rfl⟩
 | k+1,i=>by
  show (f i && allFr f (i+1) k)=true↔_
  rw [Bool.and_eq_true,allFr_true]
  constructor
  ·rintro ⟨h0,h⟩ j h1 h2
   by_cases e:j=i
   ·rw [e];exact h0
   ·exact h j (by omega) (by omega)
  ·intro h
   exact ⟨h i (Nat.le_refl _) (by omega),fun j h1 h2=>h j (by omega) (by omega)⟩
theorem allFr_step {f:Nat→Bool} {i n:Nat} (h:i<n):allFr f i (n-i)=(f i && allFr f (i+1) (n-(i+1))):=by
 rw [show n-i=(n-(i+1))+1 by omega];rfl
theorem allFr_end {f:Nat→Bool} {i n:Nat} (h:n≤i):allFr f i (n-i)=true:=by rw [show n-i=0 by omega];rfl
theorem allFr_congr {f g:Nat→Bool} {i k:Nat} (h:∀ j,i≤j→j<i+k→f j=g j):allFr f i k=allFr g i k:=by
 rw [Bool.eq_iff_iff,allFr_true,allFr_true]
 exact ⟨fun a j h1 h2=>by rw [← h j h1 h2];exact a j h1 h2,fun a j h1 h2=>by rw [h j h1 h2];exact a j h1 h2⟩
theorem allFr_and {f g:Nat→Bool} {i k:Nat}:allFr (fun j=>f j && g j) i k=(allFr f i k && allFr g i k):=by
 rw [Bool.eq_iff_iff,Bool.and_eq_true,allFr_true,allFr_true,allFr_true]
 constructor
 ·intro h
  exact ⟨fun j h1 h2=>(Bool.and_eq_true _ _ ▸ h j h1 h2:f j=true∧g j=true).1,fun j h1 h2=>(Bool.and_eq_true _ _ ▸ h j h1 h2:f j=true∧g j=true).2⟩
 ·rintro ⟨h,k⟩ j h1 h2
  rw [h j h1 h2,k j h1 h2];rfl
def sd (p:List Pt) (i:Nat):Pt × Pt:=(sidesP p).getD i ((0,0),(0,0))
def onB (a:Pt):Bool:=decide (0≤a.1) && decide (a.1≤1048576) && decide (0≤a.2) && decide (a.2≤1048576)
def ltP (a b:Pt):Bool:=decide (a.1<b.1) || (decide (a.1=b.1) && decide (a.2<b.2))
def okJ (p:List Pt) (i:Nat):Bool:=(decide ((sd p i).1.1=(sd p i).2.1) != decide ((sd p i).1.2=(sd p i).2.2)) && (upS (sd p i) != upS (sd p ((i+1) % p.length))) && (decide (i=0) || ltP (p.getD 0 (0,0)) (p.getD i (0,0)))
def okI (p:List Pt) (i:Nat):Bool:=onB (sd p i).1 && okJ p i
def crJ (p:List Pt) (i k:Nat):Bool:=!(decide (1<i+p.length-k) && crossB (sd p i) (sd p k))
def crI (p:List Pt) (i:Nat):Bool:=allFr (crJ p i) (i+2) (p.length-(i+2))
def rightP (p:List Pt):Bool:=decide (4≤p.length) && decide (p.length≤60) && allFr (okI p) 0 p.length && allFr (crI p) 0 p.length && !upS (sd p 0)
theorem sd_get {p:List Pt} {i:Nat} (h:i<(sidesP p).length):sd p i=(sidesP p)[i]:=by
 unfold sd;rw [List.getD_eq_getElem?_getD,List.getElem?_eq_getElem h];rfl
theorem onB_iff {a:Pt}:onB a=true↔onG a:=by
 unfold onB onG
 simp only [Bool.and_eq_true,decide_eq_true_eq]
 omega
theorem rightP_poly {p:List Pt} (h:rightP p=true):Poly p:=by
 unfold rightP at h
 simp only [Bool.and_eq_true,decide_eq_true_eq] at h
 obtain ⟨⟨⟨⟨h1,h2⟩,h3⟩,h4⟩,h5⟩:=h
 rw [allFr_true] at h3 h4
 have hl:=sides_len p
 have h3:∀ j (hj:j<(sidesP p).length),onB (sidesP p)[j].1=true∧(decide ((sidesP p)[j].1.1=(sidesP p)[j].2.1) != decide ((sidesP p)[j].1.2=(sidesP p)[j].2.2))=true∧(upS (sidesP p)[j] != upS ((sidesP p)[(j+1) % (sidesP p).length]'(Nat.mod_lt _ (by omega))))=true:=fun j hj=>by
  have:=h3 j (Nat.zero_le _) (by omega)
  unfold okI okJ at this
  simp only [Bool.and_eq_true] at this
  have hj2:(j+1) % p.length<(sidesP p).length:=by rw [hl];exact Nat.mod_lt _ (by omega)
  rw [sd_get hj,sd_get hj2] at this
  obtain ⟨q1,⟨q2,q3⟩,_⟩:=this
  refine ⟨q1,q2,?_⟩
  simp only [hl]
  exact q3
 refine ⟨h1,fun v hv=>?_,fun s hs=>?_,fun i hi=>?_,fun i k hi hk hik hn=>?_⟩
 ·obtain ⟨i,hi,rfl⟩:=List.getElem_of_mem hv
  have:=(h3 i (by omega)).1
  rw [sides_get hi] at this
  exact onB_iff.1 this
 ·obtain ⟨i,hi,rfl⟩:=List.getElem_of_mem hs
  have:=(h3 i hi).2.1
  simpa using this
 ·have:=(h3 i hi).2.2
  simpa using this
 ·have:=h4 i (Nat.zero_le _) (by omega)
  unfold crI at this
  rw [allFr_true] at this
  have:=this k hik (by omega)
  unfold crJ at this
  rw [sd_get hi,sd_get hk,decide_eq_true (by omega),Bool.true_and] at this
  simpa using this
theorem rightP_len {p:List Pt} (h:rightP p=true):4≤p.length∧p.length≤60:=by
 unfold rightP at h
 simp only [Bool.and_eq_true,decide_eq_true_eq] at h
 exact ⟨h.1.1.1.1,h.1.1.1.2⟩
def shR (dx dy:Int) (r:Rect):Rect:=⟨r.x0+dx,r.y0+dy,r.x1+dx,r.y1+dy⟩
def shoe (s:Pt × Pt):Int:=s.1.1 * s.2.2-s.2.1 * s.1.2
def sumZ {α:Type} (f:α→Int):List α→Int
 | []=>0
 | a :: l=>f a+sumZ f l
def shoeP (p:List Pt):Int:=sumZ shoe (sidesP p)
end Go.Proofs.YtnhdabelepjgbaaGreat.Rg
namespace Go.Proofs.YtnhdabelepjgbaaGreat.Bm
open Go Go.RowKit
open Rg (Rect Pt sidesP upS crossB onB sd okI okJ crI crJ rightP allFr allFr_step allFr_end)
def sideR:Rec (Pt × Pt) where
 enc s:=[.int .i64 s.1.1,.int .i64 s.1.2,.int .i64 s.2.1,.int .i64 s.2.2]
 m:=3
 len _:=rfl
 set _:=rfl
 bel _ _:=rfl
theorem side_val {s:Pt × Pt}:sideR.val s=.agg ⟨[.int .i64 s.1.1,.int .i64 s.1.2,.int .i64 s.2.1,.int .i64 s.2.2]⟩:=rfl
theorem sS:szOf E.P 48=some 4:=by kernel_rfl
theorem aS:aggT E.P 48=some true:=by kernel_rfl
theorem min_int (a b:Int):aMinMax false [.int .i64 a,.int .i64 b]=some (.int .i64 (min a b)):=by
 show some (Value.int .i64 (if b<a then b else a))=_
 congr 2
 omega
theorem nan_spec (z:Int):pureCall E.P (L E) 73 [.int .i64 z]=some (.bool false):=by
 rw [pureCall_fn F73 rfl]
 simp -implicitDefEqProofs [r73,padS]
def cmpI (a b:Int):Int:=if a<b then -1 else if b<a then 1 else 0
theorem cmp_spec (a b:Int):pureCall E.P (L E) 47 [.int .i64 a,.int .i64 b]=some (.int .i64 (cmpI a b)):=by
 have n1:=nan_spec a
 have n2:=nan_spec b
 rw [pureCall_fn F47 rfl]
 unfold cmpI
 by_cases h1:a<b
 ·simp -implicitDefEqProofs [r47,padS,ret0 m73,n1,n2,h1]
 by_cases h2:b<a
 ·simp -implicitDefEqProofs [r47,padS,ret0 m73,n1,n2,h1,h2]
 simp -implicitDefEqProofs [r47,padS,ret0 m73,n1,n2,h1,h2]
def orL:List Int→Int
 | []=>0
 | z :: l=>if z=0 then orL l else z
theorem cor_spec (l:List Int) (hl:l.length≤1000):pureCall E.P (L E) 46 [lst true (l.map (.int .i64))]=some (.int .i64 (orL l)):=by
 have ix:∀ (i:Nat) (hi:i<l.length),indexAddrT (.sl 3 ⟨some false,some 1⟩) (lst true (l.map (.int .i64))) (.int .i64 (i:Int))=some (cptr (.int .i64 l[i])):=fun i hi=>by
  have e:(l.map (Value.int .i64))[i]?=some (.int .i64 l[i]):=by simp [hi]
  rw [index_lst,if_pos (by omega),show ((i:Int)).toNat=i by omega,e,Option.bind_some,if_pos (by rfl)]
 have ln:∀ h,lenT .sl h (lst true (l.map (.int .i64)))=some (.int .i64 l.length):=fun h=>by rw [len_lst];simp
 rw [pureCall_fn F46 rfl]
 simp -implicitDefEqProofs [r46,p46,ln]
 rw [LL_for (γ:=Unit) l () (fun i _=>[(8,.int .i64 i)]) (fun _ _=>[]) (fun _ rest _=>if orL rest=0 then (.exit 0,[(8,undef)],[]) else (.ret,[(2,.int .i64 (orL rest)),(8,undef)],[])) (fun _ _=>True) (by omega) trivial]
 ·by_cases h:orL l=0
  ·simp -implicitDefEqProofs [k46_3,h]
  ·simp -implicitDefEqProofs [k46_3,h]
 ·simp -implicitDefEqProofs [k46_3]
 ·rfl
 ·intro nx i c hi _
  simp -implicitDefEqProofs [r46_3,k46_3,hi,ln,trim_le,orL]
 ·intro nx i z rest c hi hv hd hw _ ih
  have ih:=ih () trivial
  have ixi:=ix i hi
  rw [hv] at ixi
  have eo:orL (z :: rest)=if z=0 then orL rest else z:=rfl
  rw [eo]
  simp -implicitDefEqProofs [k46_3] at ih
  by_cases hz:z=0
  ·subst hz
   simp -implicitDefEqProofs [r46_3,k46_3,hi,ln,ixi,hw,trim_le]
   exact ih
  ·simp -implicitDefEqProofs [r46_3,k46_3,hi,ln,ixi,hz,trim_le]
def cmpP (a b:Pt):Int:=orL [cmpI a.1 b.1,cmpI a.2 b.2]
theorem cmpP_lt (a b:Pt):cmpP a b<0↔Rg.ltP a b=true:=by
 unfold cmpP orL orL orL cmpI Rg.ltP
 simp only [Bool.or_eq_true,Bool.and_eq_true,decide_eq_true_eq]
 split <;> (repeat' split) <;> omega
theorem lit_ints2 (h:Heap) (a b:Int):buildSliceT (some ⟨3,1,8,.int .i64 0,⟨some false,some 1⟩⟩) false h 2 #[(0,.int .i64 a),(1,.int .i64 b)]=some (lst true [.int .i64 a,.int .i64 b],h) :=
 (build_lit' (n:=2) (l:=[(0,.int .i64 a),(1,.int .i64 b)]) rfl rfl (by decide) (by decide) (by decide)).trans rfl
theorem compare_spec (a b:Pt):pureCall E.P (L E) 25 [.agg ⟨[.int .i64 a.1,.int .i64 a.2]⟩,.agg ⟨[.int .i64 b.1,.int .i64 b.2]⟩]=some (.int .i64 (cmpP a b)):=by
 have c1:=cmp_spec a.1 b.1
 have c2:=cmp_spec a.2 b.2
 have c3:=cor_spec [cmpI a.1 b.1,cmpI a.2 b.2] (by show 2≤1000;omega)
 have rf:∀ h (u v:Int),reify E.P 8 h (lst true [.int .i64 u,.int .i64 v])=some (lst true [.int .i64 u,.int .i64 v]):=fun _ _ _=>rfl
 simp only [List.map_cons,List.map_nil] at c3
 rw [pureCall_fn F25 rfl]
 unfold cmpP
 simp -implicitDefEqProofs [r25,padS,ret0 m47,c1,c2,lit_ints2,ret0 m46,rf,c3]
theorem grid_spec (a:Pt):pureCall E.P (L E) 24 [.agg ⟨[.int .i64 a.1,.int .i64 a.2]⟩]=some (.bool (onB a)):=by
 unfold onB
 rw [pureCall_fn F24 rfl]
 by_cases h1:0≤a.1
 case neg=>simp -implicitDefEqProofs [r24,padS,h1]
 by_cases h2:a.1≤1048576
 case neg=>simp -implicitDefEqProofs [r24,padS,h1,h2]
 by_cases h3:0≤a.2
 case neg=>simp -implicitDefEqProofs [r24,padS,h1,h2,h3]
 simp -implicitDefEqProofs [r24,padS,h1,h2,h3]
theorem up_spec (s:Pt × Pt):pureCall E.P (L E) 21 [.agg ⟨[.int .i64 s.1.1,.int .i64 s.1.2,.int .i64 s.2.1,.int .i64 s.2.2]⟩]=some (.bool (upS s)):=by
 unfold upS
 rw [pureCall_fn F21 rfl]
 by_cases h:s.1.1=s.2.1 <;> simp -implicitDefEqProofs [r21,padS,h]
theorem crosses_spec (s t:Pt × Pt):pureCall E.P (L E) 26 [.agg ⟨[.int .i64 s.1.1,.int .i64 s.1.2,.int .i64 s.2.1,.int .i64 s.2.2]⟩,.agg ⟨[.int .i64 t.1.1,.int .i64 t.1.2,.int .i64 t.2.1,.int .i64 t.2.2]⟩]=some (.bool (crossB s t)):=by
 unfold crossB
 rw [pureCall_fn F26 rfl]
 by_cases h:max (min s.1.1 s.2.1) (min t.1.1 t.2.1)≤min (max s.1.1 s.2.1) (max t.1.1 t.2.1)
 ·simp -implicitDefEqProofs [r26,p26,min_int,max_int,h]
 ·simp -implicitDefEqProofs [r26,p26,min_int,max_int,h]
theorem b22 (a b c d:Int):buildT (Bl.fs ⟨[.int .i64 0,.int .i64 0,.int .i64 0,.int .i64 0]⟩ ⟨[(0,2),(2,2)]⟩) #[(0,.agg ⟨[.int .i64 a,.int .i64 b]⟩),(1,.agg ⟨[.int .i64 c,.int .i64 d]⟩)]=some (.agg ⟨[.int .i64 a,.int .i64 b,.int .i64 c,.int .i64 d]⟩):=rfl
def zeroS:Pt × Pt:=((0,0),(0,0))
theorem make_sides (h:Heap) (n:Nat) (hn:n≤1000000):makeSliceT (some ⟨48,4,32,.agg ⟨[.int .i64 0,.int .i64 0,.int .i64 0,.int .i64 0]⟩,⟨some true,some 4⟩⟩) h (.int .i64 (n:Int)) (.int .i64 (n:Int))=some (sideR.msl h.length (List.replicate n zeroS),h++[sideR.mrow 48 (List.replicate n zeroS)]) :=
 Rec.make_rec (R:=sideR) (a:=zeroS) rfl rfl hn (by decide)
def part (p:List Pt) (i:Nat):List (Pt × Pt):=(sidesP p).take i++List.replicate (p.length-i) zeroS
theorem part_len {p:List Pt} {i:Nat} (h:i≤p.length):(part p i).length=p.length:=by
 unfold part
 rw [List.length_append,List.length_take,Rg.sides_len,List.length_replicate];omega
theorem part_set {p:List Pt} {i:Nat} (h:i<p.length):(part p i).set i ((sidesP p)[i]'(by rw [Rg.sides_len];exact h))=part p (i+1):=by
 have hs:i<(sidesP p).length:=by rw [Rg.sides_len];exact h
 have ht:((sidesP p).take i).length=i:=by rw [List.length_take];omega
 unfold part
 rw [List.set_append_right _ _ (by omega),ht,Nat.sub_self,show p.length-i=(p.length-(i+1))+1 by omega,List.replicate_succ,List.set_cons_zero,List.take_succ_eq_append_getElem hs,List.append_assoc];rfl
theorem around_spec (x:Bool) (p:List Pt) (hp:p.length≤1000):pureCall E.P (L E) 20 [lst x (spanR.vals p)]=some (lst false (sideR.vals (sidesP p))):=by
 have ln:∀ h,lenT .sl h (lst x (spanR.vals p))=some (.int .i64 p.length):=fun h=>Rec.tree_len
 have ix:∀ (i:Nat) (hi:i<p.length),indexAddrT (.sl 42 ⟨some true,some 2⟩) (lst x (spanR.vals p)) (.int .i64 (i:Int))=some (cptr (spanR.val p[i])):=fun i hi=>Rec.index_tree rfl hi
 have mk:=fun h=>make_sides h p.length (by omega)
 rw [pureCall_fn F20 rfl]
 simp -implicitDefEqProofs [r20,p20,ln,mk]
 rw [LL_rec (α:=Nat) 0 (fun i=>[(10,.int .i64 (i:Int))]) (fun i=>[sideR.mrow 48 (part p i)]) (fun _=>(.exit 0,[(10,undef)],[sideR.mrow 48 (sidesP p)])) (fun i=>i≤p.length) (fun i=>p.length-i)]
 ·have rr:=Rec.mreify (R:=sideR) (P:=E.P) (n:=7) (h:=[sideR.mrow 48 (sidesP p)]) (b:=0) (t:=48) (l:=sidesP p) rfl sS aS
  rw [Rec.msl_eq (d:=List.replicate p.length zeroS) (by rw [Rg.sides_len,List.length_replicate])] at rr
  have rr':reifyR E.P [sideR.mrow 48 (sidesP p)] (sideR.msl 0 (List.replicate p.length zeroS))=some (lst false (sideR.vals (sidesP p))):=rr
  simp -implicitDefEqProofs [k20_3,rr']
 ·exact Nat.zero_le _
 ·simp -implicitDefEqProofs [k20_3]
 ·rfl
 ·intro nx i hi ih
  by_cases h:i<p.length
  ·have h':(i:Int)<(p.length:Int):=by omega
   have hm:(i+1) % p.length<p.length:=Nat.mod_lt _ (by omega)
   have i0:=ix i h
   have i1:=ix _ hm
   rw [span_val] at i0 i1
   have ih:=ih (i+1) (by omega) (by omega)
   have wi:IntKind.i64.wrap ((i:Int)+1)=((i+1:Nat):Int):=(wrap64 (by omega) (by omega)).trans (by omega)
   have rm:=rem_nat (P:=E.P) (t:=3) (m:=i+1) (n:=p.length) (by omega)
   have st:=Rec.mstore (R:=sideR) (n:=4) (h:=[sideR.mrow 48 (part p i)]) (b:=0) (lo:=0) (t:=48) (l:=part p i) (i:=i) (a:=(sidesP p)[i]'(by rw [Rg.sides_len];exact h)) rfl rfl (Nat.le_refl _) (by rw [part_len hi];exact h)
   rw [part_set h,Rg.sides_get h,side_val] at st
   have mi:=Rec.mindex (R:=sideR) (h0:=4) (t:=48) (g:=some true) (b:=0) (l:=List.replicate p.length zeroS) (i:=i) (k:=.i64) rfl (by rw [List.length_replicate];exact h)
   generalize p[(i+1) % p.length]=b at i1 st
   clear hm
   generalize (i+1) % p.length=j at i1 rm
   simp -implicitDefEqProofs [k20_3] at ih
   simp -implicitDefEqProofs [r20_3,k20_3,ln,h,h',i0,i1,wi,rm,b22,mi,st,trim_le,-Int.natCast_add]
   exact ih
  ·have e:i=p.length:=by omega
   subst e
   have ep:part p p.length=sidesP p:=by
    unfold part
    rw [Nat.sub_self,List.replicate_zero,List.append_nil,List.take_of_length_le (by rw [Rg.sides_len];exact Nat.le_refl _)]
   rw [ep]
   simp -implicitDefEqProofs [r20_3,k20_3,ln,trim_le]
def topE (E:Env) (g:FuncId→Option (List Value→Heap→Nat→Res)):Env:={ E with orc:=g }
section
variable {E:Env} {g:FuncId→Option (List Value→Heap→Nat→Res)}
theorem top_with {sl draw:Bool} {ops:Array Oper}:withStrict (topE E g) sl draw ops=withStrict E sl draw ops:=rfl
theorem top_rc {f:FuncId}:∀ (c:Code),rcOf (topE E g) f c=rcOf E f c:=by
 intro c
 induction c with
 | seq a b iha ihb=>simp only [rcOf,iha,ihb]
 | cond x a b iha ihb=>simp only [rcOf,iha,ihb]
 | block i a ih=>simp only [rcOf,ih]
 | loop a ih=>simp only [rcOf,ih];rfl
 | scope a ih=>simp only [rcOf,ih]
 | region id ops draw=>simp only [rcOf,top_with];rfl
 | _=>rfl
theorem top_fn {f:FuncId}:rfnOf (topE E g) f=rfnOf E f:=by
 simp only [rfnOf,top_rc];rfl
end
end Go.Proofs.YtnhdabelepjgbaaGreat.Bm
