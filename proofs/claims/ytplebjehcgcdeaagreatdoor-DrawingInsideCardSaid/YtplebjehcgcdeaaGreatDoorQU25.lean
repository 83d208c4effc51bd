/-
 Regions, plain: lists of rectangles in their form; two of them with the same cells are equal. Conditions: none. No program in sight.
-/
import Derived.KernelRfl
namespace Go.Proofs.YtplebjehcgcdeaaGreatDoor.Rg
def canS:Int→List (Int × Int)→Prop
 | _,[]=>True
 | b,(f,t) :: l=>b<f∧f<t∧canS t l
def Can:List (Int × Int)→Prop
 | []=>True
 | (f,t) :: l=>f<t∧canS t l
def hasS (l:List (Int × Int)) (y:Int):Bool:=l.any fun s=>decide (s.1≤y) && decide (y<s.2)
theorem hasS_nil {y:Int}:hasS [] y=false:=rfl
theorem hasS_cons {f t y:Int} {l:List (Int × Int)}:hasS ((f,t) :: l) y=((decide (f≤y) && decide (y<t)) || hasS l y):=rfl
theorem canS_low:∀ {l:List (Int × Int)} {b y:Int},canS b l→y≤b→hasS l y=false
 | [],_,_,_,_=>rfl
 | (f,t) :: l,b,y,h,hy=>by
  rw [hasS_cons,canS_low h.2.2 (by have:=h.1;have:=h.2.1;omega),Bool.or_false]
  have:=h.1
  simp;omega
theorem Can.of {l:List (Int × Int)} {b:Int} (h:canS b l):Can l:=by
 cases l with
 | nil=>trivial
 | cons s l=>exact h.2
theorem canS_unique:∀ {a c:List (Int × Int)} {b:Int},canS b a→canS b c→(∀ y,hasS a y=hasS c y)→a=c
 | [],[],_,_,_,_=>rfl
 | [],(g,u) :: c,_,_,h,e=>by
  have:=e g
  rw [hasS_nil,hasS_cons] at this
  have:=h.2.1
  simp_all
 | (f,t) :: a,[],_,h,_,e=>by
  have:=e f
  rw [hasS_nil,hasS_cons] at this
  have:=h.2.1
  simp_all
 | (f,t) :: a,(g,u) :: c,b,h,k,e=>by
  have h2:=h.2.1
  have k2:=k.2.1
  have e1:f=g:=by
   rcases Int.lt_trichotomy f g with q | q | q
   ·have:=e f
    rw [hasS_cons,hasS_cons,canS_low k.2.2 (y:=f) (by omega)] at this
    have a1:decide (f≤f)=true:=by simp
    have a2:decide (f<t)=true:=by simpa using h2
    have a3:decide (g≤f)=false:=by simp;omega
    rw [a1,a2,a3] at this
    simp at this
   ·exact q
   ·have:=e g
    rw [hasS_cons,hasS_cons,canS_low h.2.2 (y:=g) (by omega)] at this
    have a1:decide (g≤g)=true:=by simp
    have a2:decide (g<u)=true:=by simpa using k2
    have a3:decide (f≤g)=false:=by simp;omega
    rw [a1,a2,a3] at this
    simp at this
  subst e1
  have e2:t=u:=by
   rcases Int.lt_trichotomy t u with q | q | q
   ·have:=e t
    rw [hasS_cons,hasS_cons,canS_low h.2.2 (Int.le_refl t)] at this
    have a1:decide (f≤t)=true:=by simp;omega
    have a2:decide (t<t)=false:=by simp
    have a3:decide (t<u)=true:=by simpa using q
    rw [a1,a2,a3] at this
    simp at this
   ·exact q
   ·have:=e u
    rw [hasS_cons,hasS_cons,canS_low k.2.2 (Int.le_refl u)] at this
    have a1:decide (f≤u)=true:=by simp;omega
    have a2:decide (u<u)=false:=by simp
    have a3:decide (u<t)=true:=by simpa using q
    rw [a1,a2,a3] at this
    simp at this
  subst e2
  rw [canS_unique h.2.2 k.2.2 fun y=>?_]
  by_cases hy:y≤t
  ·rw [canS_low h.2.2 hy,canS_low k.2.2 hy]
  ·have:=e y
   rw [hasS_cons,hasS_cons] at this
   have a1:decide (y<t)=false:=by simp;omega
   rw [a1] at this
   simpa using this
theorem canS_ex {l:List (Int × Int)} (h:Can l):∀ b,(∀ s∈l,b<s.1)→canS b l:=by
 intro b hb
 cases l with
 | nil=>trivial
 | cons s l=>exact ⟨hb s (by simp),h⟩
theorem low_ex:∀ (l m:List (Int × Int)),∃ b:Int,(∀ s∈l,b<s.1)∧∀ s∈m,b<s.1
 | [],[]=>⟨0,by simp,by simp⟩
 | [],s :: m=>by
  obtain ⟨b,_,h⟩:=low_ex [] m
  exact ⟨min b (s.1 - 1), by simp, fun x hx => by rcases List.mem_cons.1 hx with rfl | hx; · omega
                                                  ·have:=h x hx;omega⟩
 | s :: l,m=>by
  obtain ⟨b,h,k⟩:=low_ex l m
  exact ⟨min b (s.1 - 1), fun x hx => by rcases List.mem_cons.1 hx with rfl | hx; · omega
                                         ·have:=h x hx;omega,fun x hx=>by have:=k x hx;omega⟩
theorem Can.unique {a c:List (Int × Int)} (h:Can a) (k:Can c) (e:∀ y,hasS a y=hasS c y):a=c:=by
 obtain ⟨b,h1,h2⟩:=low_ex a c
 exact canS_unique (canS_ex h b h1) (canS_ex k b h2) e
theorem Can.some {a:List (Int × Int)} (h:Can a) (hne:a≠[]):∃ y,hasS a y=true:=by
 cases a with
 | nil=>exact absurd rfl hne
 | cons s l=>exact ⟨s.1,by have:=h.1;simp [hasS];omega⟩
structure Slab where
 x0:Int
 x1:Int
 col:List (Int × Int)
def cellT (T:List Slab) (x y:Int):Bool:=T.any fun s=>decide (s.x0≤x) && decide (x<s.x1) && hasS s.col y
def canT:Int→List (Int × Int)→List Slab→Prop
 | _,_,[]=>True
 | b,c,s :: T=>b≤s.x0∧s.x0<s.x1∧s.col≠[]∧Can s.col∧(b=s.x0→s.col≠c)∧canT s.x1 s.col T
theorem cellT_cons {s:Slab} {T:List Slab} {x y:Int}:cellT (s :: T) x y=((decide (s.x0≤x) && decide (x<s.x1) && hasS s.col y) || cellT T x y):=rfl
theorem canT_low:∀ {T:List Slab} {b:Int} {c:List (Int × Int)} {x y:Int},canT b c T→x<b→cellT T x y=false
 | [],_,_,_,_,_,_=>rfl
 | s :: T,b,c,x,y,h,hx=>by
  have h1:=h.1
  have h2:=h.2.1
  rw [cellT_cons,canT_low h.2.2.2.2.2 (by omega),Bool.or_false]
  have:decide (s.x0≤x)=false:=by simp;omega
  rw [this];rfl
theorem canT_at:∀ {T:List Slab} {b:Int} {c:List (Int × Int)},canT b c T→∃ d,Can d∧(∀ y,cellT T b y=hasS d y)∧(d≠[]→d≠c)
 | [],_,_,_=>⟨[],trivial,fun _=>rfl,fun h=>absurd rfl h⟩
 | s :: T,b,c,h=>by
  have h2:=h.2.1
  by_cases e:b=s.x0
  ·refine ⟨s.col,h.2.2.2.1,fun y=>?_,fun _=>h.2.2.2.2.1 e⟩
   rw [cellT_cons,canT_low h.2.2.2.2.2 (by omega),Bool.or_false]
   have a1:decide (s.x0≤b)=true:=by simp;omega
   have a2:decide (b<s.x1)=true:=by simp;omega
   rw [a1,a2];rfl
  ·refine ⟨[],trivial,fun y=>?_,fun h=>absurd rfl h⟩
   have h1:=h.1
   rw [cellT_cons,canT_low h.2.2.2.2.2 (by omega),Bool.or_false]
   have a1:decide (s.x0≤b)=false:=by simp;omega
   rw [a1];rfl
theorem canT_unique:∀ {T U:List Slab} {b:Int} {c:List (Int × Int)},canT b c T→canT b c U→(∀ x y,cellT T x y=cellT U x y)→T=U
 | [],[],_,_,_,_,_=>rfl
 | [],s :: U,_,_,_,k,e=>by
  obtain ⟨y,hy⟩:=k.2.2.2.1.some k.2.2.1
  have:=e s.x0 y
  rw [cellT_cons,hy] at this
  have:=k.2.1
  simp_all [cellT]
 | s :: T,[],_,_,h,_,e=>by
  obtain ⟨y,hy⟩:=h.2.2.2.1.some h.2.2.1
  have:=e s.x0 y
  rw [cellT_cons,hy] at this
  have:=h.2.1
  simp_all [cellT]
 | s :: T,u :: U,b,c,h,k,e=>by
  have low:∀ {s u:Slab} {T U:List Slab} {b:Int} {c:List (Int × Int)},canT b c (s :: T)→canT b c (u :: U)→(∀ x y,cellT (s :: T) x y=cellT (u :: U) x y)→u.x0≤s.x0:=by
   intro s u T U b c h k e
   apply Decidable.byContradiction
   intro hn
   obtain ⟨y,hy⟩:=h.2.2.2.1.some h.2.2.1
   have e1:=e s.x0 y
   have h2:=h.2.1
   have k2:=k.2.1
   rw [cellT_cons,cellT_cons,hy,canT_low k.2.2.2.2.2 (x:=s.x0) (by omega)] at e1
   have a1:decide (s.x0≤s.x0)=true:=by simp
   have a2:decide (s.x0<s.x1)=true:=by simpa using h2
   have a3:decide (u.x0≤s.x0)=false:=by simp;omega
   rw [a1,a2,a3] at e1
   simp at e1
  have e0:s.x0=u.x0:=Int.le_antisymm (low k h fun x y=>(e x y).symm) (low h k e)
  have h2:=h.2.1
  have k2:=k.2.1
  have colAt:∀ {s:Slab} {T:List Slab} {b:Int} {c:List (Int × Int)} (_:canT b c (s :: T)) (x y:Int),s.x0≤x→x<s.x1→cellT (s :: T) x y=hasS s.col y:=by
   intro s T b c h x y hx hx1
   rw [cellT_cons,canT_low h.2.2.2.2.2 hx1,Bool.or_false]
   have a1:decide (s.x0≤x)=true:=by simpa using hx
   have a2:decide (x<s.x1)=true:=by simpa using hx1
   rw [a1,a2];rfl
  have ec:s.col=u.col:=h.2.2.2.1.unique k.2.2.2.1 fun y=>by
   rw [← colAt h s.x0 y (Int.le_refl _) h2,e,colAt k s.x0 y (by omega) (by omega)]
  have next:∀ {s u:Slab} {T U:List Slab} {b:Int} {c:List (Int × Int)},canT b c (s :: T)→canT b c (u :: U)→(∀ x y,cellT (s :: T) x y=cellT (u :: U) x y)→s.x0=u.x0→s.col=u.col→¬ s.x1<u.x1:=by
   intro s u T U b c h k e e0 ec hlt
   obtain ⟨d,d1,d2,d3⟩:=canT_at h.2.2.2.2.2
   have h2:=h.2.1
   have:d=u.col:=d1.unique k.2.2.2.1 fun y=>by
    rw [← d2 y,← colAt k s.x1 y (by omega) hlt,← e,cellT_cons]
    have a2:decide (s.x1<s.x1)=false:=by simp
    rw [a2];simp
   have hne:d≠[]:=by rw [this];exact k.2.2.1
   exact d3 hne (by rw [this,ec])
  have e1:s.x1=u.x1:=by
   have n1:=next h k e e0 ec
   have n2:=next k h (fun x y=>(e x y).symm) e0.symm ec.symm
   omega
  obtain ⟨sx0,sx1,sc⟩:=s
  obtain ⟨ux0,ux1,uc⟩:=u
  simp only at e0 e1 ec
  subst e0;subst e1;subst ec
  rw [canT_unique h.2.2.2.2.2 k.2.2.2.2.2 fun x y=>?_]
  by_cases hx:x<sx1
  ·rw [canT_low h.2.2.2.2.2 hx,canT_low k.2.2.2.2.2 hx]
  ·have:=e x y
   rw [cellT_cons,cellT_cons] at this
   have a2:decide (x<sx1)=false:=by simpa using hx
   rw [a2] at this
   simpa using this
def glue:Int × Int→List (Int × Int)→List (Int × Int)
 | s,[]=>[s]
 | s,u :: l=>if u.1≤s.2 then glue (s.1,max s.2 u.2) l else s :: glue u l
def colF:List (Int × Int)→List (Int × Int)
 | []=>[]
 | s :: l=>glue s l
theorem glue_can:∀ (l:List (Int × Int)) (s:Int × Int) (b:Int),b<s.1→s.1<s.2→(s :: l).Pairwise (fun a c=>a.1≤c.1)→(∀ u∈l,u.1<u.2)→canS b (glue s l)
 | [],s,b,hb,h,_,_=>⟨hb,h,trivial⟩
 | u :: l,s,b,hb,h,hp,hl=>by
  rw [List.pairwise_cons] at hp
  obtain ⟨p1,p2⟩:=hp
  have hu:=hl u (by simp)
  have pu:=p1 u (by simp)
  unfold glue
  split
  ·refine glue_can l (s.1,max s.2 u.2) b hb (by show s.1<max s.2 u.2;omega) ?_ fun v hv=>hl v (by simp [hv])
   rw [List.pairwise_cons] at p2 ⊢
   exact ⟨fun v hv=>p1 v (by simp [hv]),p2.2⟩
  ·exact ⟨hb,h,glue_can l u s.2 (by omega) hu p2 fun v hv=>hl v (by simp [hv])⟩
theorem glue_has:∀ (l:List (Int × Int)) (s:Int × Int) (y:Int),s.1<s.2→(s :: l).Pairwise (fun a c=>a.1≤c.1)→(∀ u∈l,u.1<u.2)→hasS (glue s l) y=hasS (s :: l) y
 | [],s,y,_,_,_=>rfl
 | u :: l,s,y,h,hp,hl=>by
  rw [List.pairwise_cons] at hp
  obtain ⟨p1,p2⟩:=hp
  have hu:=hl u (by simp)
  have pu:=p1 u (by simp)
  unfold glue
  split
  ·rename_i hle
   rw [glue_has l (s.1,max s.2 u.2) y (by show s.1<max s.2 u.2;omega) (by
    rw [List.pairwise_cons] at p2 ⊢
    exact ⟨fun v hv=>p1 v (by simp [hv]),p2.2⟩) fun v hv=>hl v (by simp [hv])]
   show ((decide (s.1≤y) && decide (y<max s.2 u.2)) || hasS l y)=((decide (s.1≤y) && decide (y<s.2)) || ((decide (u.1≤y) && decide (y<u.2)) || hasS l y))
   rw [← Bool.or_assoc]
   congr 1
   rw [Bool.eq_iff_iff]
   simp only [Bool.or_eq_true,Bool.and_eq_true,decide_eq_true_eq]
   omega
  ·show (_ || hasS (glue u l) y)=_
   rw [glue_has l u y hu p2 fun v hv=>hl v (by simp [hv])]
   rfl
theorem colF_can {l:List (Int × Int)} (hp:l.Pairwise (fun a c=>a.1≤c.1)) (hl:∀ u∈l,u.1<u.2):Can (colF l):=by
 cases l with
 | nil=>trivial
 | cons s l=>exact Can.of (glue_can l s (s.1-1) (by omega) (hl s (by simp)) hp fun u hu=>hl u (by simp [hu]))
theorem colF_has {l:List (Int × Int)} (hp:l.Pairwise (fun a c=>a.1≤c.1)) (hl:∀ u∈l,u.1<u.2) (y:Int):hasS (colF l) y=hasS l y:=by
 cases l with
 | nil=>rfl
 | cons s l=>exact glue_has l s y (hl s (by simp)) hp fun u hu=>hl u (by simp [hu])
def gapless:Int→List Slab→Prop
 | _,[]=>True
 | b,s :: T=>s.x0=b∧s.x0<s.x1∧Can s.col∧gapless s.x1 T
def runs:Slab→List Slab→List Slab
 | s,[]=>if s.col=[] then [] else [s]
 | s,u :: T=>if u.col=s.col then runs ⟨s.x0,u.x1,s.col⟩ T else if s.col=[] then runs u T else s :: runs u T
def runsF:List Slab→List Slab
 | []=>[]
 | s :: T=>runs s T
theorem runs_can:∀ (T:List Slab) (s:Slab) (b:Int) (c:List (Int × Int)),b≤s.x0→s.x0<s.x1→Can s.col→gapless s.x1 T→(b=s.x0→s.col≠[]→s.col≠c)→canT b c (runs s T)
 | [],s,b,c,hb,h,hc,_,hn=>by
  unfold runs
  split
  ·trivial
  ·exact ⟨hb,h,‹_›,hc,fun e=>hn e ‹_›,trivial⟩
 | u :: T,s,b,c,hb,h,hc,hg,hn=>by
  obtain ⟨g1,g2,g3,g4⟩:=hg
  unfold runs
  split
  ·exact runs_can T ⟨s.x0,u.x1,s.col⟩ b c hb (by show s.x0<u.x1;omega) hc g4 hn
  ·rename_i hne
   split
   ·exact runs_can T u b c (by omega) g2 g3 g4 fun e=>by omega
   ·rename_i hs
    exact ⟨hb,h,hs,hc,fun e=>hn e hs,runs_can T u s.x1 s.col (by omega) g2 g3 g4 fun _ _=>hne⟩
theorem runs_cell:∀ (T:List Slab) (s:Slab) (x y:Int),s.x0<s.x1→gapless s.x1 T→cellT (runs s T) x y=cellT (s :: T) x y
 | [],s,x,y,_,_=>by
  unfold runs
  split
  ·rename_i h
   rw [cellT_cons,h,hasS_nil,Bool.and_false];rfl
  ·rfl
 | u :: T,s,x,y,h,hg=>by
  obtain ⟨g1,g2,g3,g4⟩:=hg
  unfold runs
  split
  ·rename_i he
   rw [runs_cell T ⟨s.x0,u.x1,s.col⟩ x y (by show s.x0<u.x1;omega) g4,cellT_cons,cellT_cons,cellT_cons,← Bool.or_assoc,he]
   congr 1
   cases hasS s.col y
   ·simp
   ·simp only [Bool.and_true]
    rw [Bool.eq_iff_iff]
    simp only [Bool.or_eq_true,Bool.and_eq_true,decide_eq_true_eq]
    omega
  ·split
   ·rename_i hs
    rw [runs_cell T u x y g2 g4,cellT_cons (s:=s),hs,hasS_nil,Bool.and_false,Bool.false_or]
   ·rw [cellT_cons,runs_cell T u x y g2 g4,cellT_cons (s:=s)]
theorem runsF_can {T:List Slab} {b:Int} (hg:gapless b T):∃ b,canT b [] (runsF T):=by
 cases T with
 | nil=>exact ⟨0,trivial⟩
 | cons s T=>exact ⟨s.x0,runs_can T s s.x0 [] (Int.le_refl _) hg.2.1 hg.2.2.1 hg.2.2.2 fun _ h=>h⟩
theorem runsF_cell {T:List Slab} {b:Int} (hg:gapless b T) (x y:Int):cellT (runsF T) x y=cellT T x y:=by
 cases T with
 | nil=>rfl
 | cons s T=>exact runs_cell T s x y hg.2.1 hg.2.2.2
structure Rect where
 x0:Int
 y0:Int
 x1:Int
 y1:Int
deriving DecidableEq
def Rect.has (r:Rect) (x y:Int):Bool:=decide (r.x0≤x) && decide (x<r.x1) && (decide (r.y0≤y) && decide (y<r.y1))
def cell (l:List Rect) (x y:Int):Bool:=l.any fun r=>r.has x y
def emit (s:Slab):List Rect:=s.col.map fun c=>⟨s.x0,c.1,s.x1,c.2⟩
def outT (T:List Slab):List Rect:=T.flatMap emit
theorem cell_emit (s:Slab) (x y:Int):cell (emit s) x y=(decide (s.x0≤x) && decide (x<s.x1) && hasS s.col y):=by
 unfold cell emit hasS
 rw [List.any_map]
 induction s.col with
 | nil=>simp
 | cons c l ih =>
  rw [List.any_cons,List.any_cons,ih,Bool.and_or_distrib_left]
  rfl
theorem cell_append (l m:List Rect) (x y:Int):cell (l++m) x y=(cell l x y || cell m x y):=List.any_append
theorem cell_outT (T:List Slab) (x y:Int):cell (outT T) x y=cellT T x y:=by
 induction T with
 | nil=>rfl
 | cons s T ih =>
  show cell (emit s++outT T) x y=_
  rw [cell_append,ih,cell_emit]
  rfl
def Form (l:List Rect):Prop:=∃ (b:Int) (T:List Slab),canT b [] T∧l=outT T
theorem canT_up:∀ {T:List Slab} {b b':Int},canT b [] T→b'≤b→canT b' [] T
 | [],_,_,_,_=>trivial
 | _ :: _,_,_,h,hb=>⟨Int.le_trans hb h.1,h.2.1,h.2.2.1,h.2.2.2.1,fun _=>h.2.2.1,h.2.2.2.2.2⟩
theorem Form.ext {l m:List Rect} (h:Form l) (k:Form m) (e:∀ x y,cell l x y=cell m x y):l=m:=by
 obtain ⟨b,T,h1,rfl⟩:=h
 obtain ⟨c,U,h2,rfl⟩:=k
 rw [canT_unique (canT_up h1 (Int.min_le_left b c)) (canT_up h2 (Int.min_le_right b c)) fun x y=>by rw [← cell_outT,← cell_outT];exact e x y]
theorem Form.nil:Form []:=⟨0,[],trivial,rfl⟩
theorem Form.runs {T:List Slab} {b:Int} (hg:gapless b T):Form (outT (runsF T))∧∀ x y,cell (outT (runsF T)) x y=cellT T x y:=by
 obtain ⟨c,h⟩:=runsF_can hg
 exact ⟨⟨c,_,h,rfl⟩,fun x y=>by rw [cell_outT,runsF_cell hg]⟩
def addS (o:List (Int × Int)) (a b:Int):List (Int × Int):=match o.getLast? with
 | some s=>if s.2=a then o.dropLast++[(s.1,b)] else o++[(a,b)]
 | none=>[(a,b)]
def CanE (o:List (Int × Int)) (e:Int):Prop:=Can o∧∀ s∈o,s.2≤e
theorem canS_snoc:∀ {o:List (Int × Int)} {b f t:Int},canS b (o++[(f,t)])↔canS b o∧f<t∧b<f∧∀ s∈o,s.2<f
 | [],b,f,t=>by simp [canS];omega
 | s :: o,b,f,t=>by
  obtain ⟨g,u⟩:=s
  show (b<g∧g<u∧canS u (o++[(f,t)]))↔(b<g∧g<u∧canS u o)∧_
  rw [canS_snoc]
  constructor
  ·rintro ⟨h1,h2,h3,h4,h5,h6⟩
   exact ⟨⟨h1, h2, h3⟩, h4, by omega, fun s hs => by rcases List.mem_cons.1 hs with rfl | hs; · exact h5
                                                     ·exact h6 s hs⟩
  ·rintro ⟨⟨h1,h2,h3⟩,h4,h5,h6⟩
   exact ⟨h1,h2,h3,h4,h6 (g,u) (by simp),fun s hs=>h6 s (by simp [hs])⟩
theorem Can_snoc {o:List (Int × Int)} {f t:Int}:Can (o++[(f,t)])↔Can o∧f<t∧∀ s∈o,s.2<f:=by
 cases o with
 | nil=>simp [Can,canS]
 | cons s o =>
  obtain ⟨g,u⟩:=s
  show (g<u∧canS u (o++[(f,t)]))↔(g<u∧canS u o)∧_
  rw [canS_snoc]
  constructor
  ·rintro ⟨h1,h2,h3,h4,h5⟩
   exact ⟨⟨h1, h2⟩, h3, fun s hs => by rcases List.mem_cons.1 hs with rfl | hs; · exact h4
                                       ·exact h5 s hs⟩
  ·rintro ⟨⟨h1,h2⟩,h3,h4⟩
   exact ⟨h1,h2,h3,h4 (g,u) (by simp),fun s hs=>h4 s (by simp [hs])⟩
theorem hasS_append (o p:List (Int × Int)) (y:Int):hasS (o++p) y=(hasS o y || hasS p y):=List.any_append
theorem addS_ok {o:List (Int × Int)} {e a b:Int} (h:CanE o e) (he:e≤a) (hab:a<b):CanE (addS o a b) b∧∀ y,hasS (addS o a b) y=(hasS o y || (decide (a≤y) && decide (y<b))):=by
 obtain ⟨h1,h2⟩:=h
 unfold addS
 rcases List.eq_nil_or_concat o with rfl | ⟨p,s,rfl⟩
 ·simp only [List.getLast?_nil]
  exact ⟨⟨⟨hab,trivial⟩,fun s hs=>by rw [List.mem_singleton.1 hs];exact Int.le_refl _⟩,fun y=>by simp [hasS]⟩
 ·rw [List.concat_eq_append] at h1 h2 ⊢
  simp only [List.getLast?_append,List.getLast?_singleton,Option.some_or,List.dropLast_concat]
  obtain ⟨f,t⟩:=s
  rw [Can_snoc] at h1
  obtain ⟨k1,k2,k3⟩:=h1
  have ht:=h2 (f,t) (by simp)
  simp only at ht k2
  by_cases q:t=a
  ·rw [if_pos q]
   refine ⟨⟨Can_snoc.2 ⟨k1,by show f<b;omega,k3⟩,fun s hs=>?_⟩,fun y=>?_⟩
   ·rcases List.mem_append.1 hs with hs | hs
    ·have:=h2 s (by simp [hs]);omega
    ·rw [List.mem_singleton.1 hs];exact Int.le_refl _
   ·rw [hasS_append,hasS_append,Bool.or_assoc]
    congr 1
    show ((decide (f≤y) && decide (y<b)) || false)=(((decide (f≤y) && decide (y<t)) || false) || _)
    rw [Bool.or_false,Bool.or_false,Bool.eq_iff_iff]
    simp only [Bool.or_eq_true,Bool.and_eq_true,decide_eq_true_eq]
    omega
  ·rw [if_neg q]
   refine ⟨⟨Can_snoc.2 ⟨Can_snoc.2 ⟨k1,k2,k3⟩,hab,fun s hs=>?_⟩,fun s hs=>?_⟩,fun y=>?_⟩
   ·rcases List.mem_append.1 hs with hs | hs
    ·have:=k3 s hs;omega
    ·rw [List.mem_singleton.1 hs];show t<a;omega
   ·rcases List.mem_append.1 hs with hs | hs
    ·have:=h2 s hs;omega
    ·rw [List.mem_singleton.1 hs];exact Int.le_refl _
   ·rw [hasS_append]
    congr 1
    show ((decide (a≤y) && decide (y<b)) || false)=_
    rw [Bool.or_false]
def keepS (k:Int→Bool):List (Int × Int)→List Int→List (Int × Int)
 | o,a :: b :: ys=>keepS k (if k a then addS o a b else o) (b :: ys)
 | o,_=>o
theorem keepS_ok (k:Int→Bool):∀ (ys:List Int) (o:List (Int × Int)) (e:Int),ys.Pairwise (· < ·)→CanE o e→(∀ a∈ys,e≤a)→Can (keepS k o ys) ∧
  ∀ y,hasS (keepS k o ys) y=(hasS o y || hasS (keepS k [] ys) y)
 | [],o,e,_,h,_=>⟨h.1,fun y=>by simp [keepS,hasS_nil]⟩
 | [a],o,e,_,h,_=>⟨h.1,fun y=>by simp [keepS,hasS_nil]⟩
 | a :: b :: ys,o,e,hp,h,he=>by
  rw [List.pairwise_cons] at hp
  have hab:=hp.1 b (by simp)
  have hea:=he a (by simp)
  have hb:∀ c∈b :: ys,b≤c:=fun c hc=>by
   rcases List.mem_cons.1 hc with rfl | hc
   ·exact Int.le_refl _
   ·have:=(List.pairwise_cons.1 hp.2).1 c hc;omega
  have e0:CanE ([]:List (Int × Int)) a:=⟨trivial,fun s hs=>by cases hs⟩
  unfold keepS
  cases hk:k a
  ·simp only [Bool.false_eq_true,if_false]
   obtain ⟨q1,q2⟩:=keepS_ok k (b :: ys) o b hp.2 ⟨h.1,fun s hs=>by have:=h.2 s hs;omega⟩ hb
   exact ⟨q1,q2⟩
  ·simp only [if_true]
   obtain ⟨p1,p2⟩:=addS_ok h hea hab
   obtain ⟨p3,p4⟩:=addS_ok e0 (Int.le_refl a) hab
   obtain ⟨q1,q2⟩:=keepS_ok k (b :: ys) _ b hp.2 p1 hb
   obtain ⟨q3,q4⟩:=keepS_ok k (b :: ys) _ b hp.2 p3 hb
   refine ⟨q1,fun y=>?_⟩
   rw [q2,q4,p2,p4,hasS_nil,Bool.false_or,Bool.or_assoc]
theorem keepS_has (k:Int→Bool) (S:Int→Bool):∀ (ys:List Int),ys.Pairwise (· < ·) →
  (∀ (a b:Int),(∃ p q,ys=p++a :: b :: q)→∀ y,a≤y→y<b→S y=k a)→(∀ y,(∀ a∈ys,y<a)→S y=false)→(∀ y,(∀ a∈ys,a≤y)→S y=false)→∀ y,hasS (keepS k [] ys) y=S y
 | [],_,_,h1,_,y=>by rw [h1 y fun a ha=>by cases ha];rfl
 | [a],_,_,h1,h2,y=>by
  by_cases q:y<a
  ·rw [h1 y fun b hb=>by rw [List.mem_singleton.1 hb];exact q];rfl
  ·rw [h2 y fun b hb=>by rw [List.mem_singleton.1 hb];omega];rfl
 | a :: b :: ys,hp,hc,h1,h2,y=>by
  have hp':=List.pairwise_cons.1 hp
  have hab:=hp'.1 b (by simp)
  have hb:∀ c∈b :: ys,b≤c:=fun c hc=>by
   rcases List.mem_cons.1 hc with rfl | hc
   ·exact Int.le_refl _
   ·have:=(List.pairwise_cons.1 hp'.2).1 c hc;omega
  have e0:CanE ([]:List (Int × Int)) a:=⟨trivial,fun s hs=>by cases hs⟩
  have ih:=keepS_has k (fun y=>decide (b≤y) && S y) (b :: ys) hp'.2 (fun c d ⟨p,q,e⟩ y hy hyd=>by
   have:b≤c:=hb c (by rw [e];simp)
   have h3:=hc c d ⟨a :: p,q,by rw [e];rfl⟩ y hy hyd
   rw [h3]
   have:decide (b≤y)=true:=by simp;omega
   rw [this,Bool.true_and]) (fun y hy=>by
    have:=hy b (by simp)
    have:decide (b≤y)=false:=by simp;omega
    rw [this,Bool.false_and]) (fun y hy=>by
    rw [h2 y fun c hc => by rcases List.mem_cons.1 hc with rfl | hc; · have := hy b (by simp); omega
                            ·exact hy c hc,Bool.and_false]) y
  have hS:=hc a b ⟨[],ys,rfl⟩ y
  have low:y<a→S y=false:=fun q=>h1 y fun c hc=>by
   rcases List.mem_cons.1 hc with rfl | hc
   ·exact q
   ·have:=hb c hc;omega
  unfold keepS
  cases hk:k a
  ·simp only [Bool.false_eq_true,if_false]
   rw [ih]
   by_cases q1:b≤y
   ·simp [q1]
   ·by_cases q2:a≤y
    ·rw [hS q2 (by omega),hk,Bool.and_false]
    ·rw [low (by omega),Bool.and_false]
  ·simp only [if_true]
   obtain ⟨p3,p4⟩:=addS_ok e0 (Int.le_refl a) hab
   obtain ⟨_,q4⟩:=keepS_ok k (b :: ys) _ b hp'.2 p3 hb
   rw [q4,p4,hasS_nil,Bool.false_or,ih]
   by_cases q1:b≤y
   ·have a1:decide (y<b)=false:=by simp;omega
    simp [q1,a1]
   ·have a1:decide (b≤y)=false:=by simpa using q1
    have a2:decide (y<b)=true:=by simp;omega
    rw [a1,a2,Bool.false_and,Bool.or_false,Bool.and_true]
    by_cases q2:a≤y
    ·rw [hS q2 (by omega),hk];simpa using q2
    ·rw [low (by omega)];simpa using q2
def stripL (c:Int→List (Int × Int)):List Int→List Slab
 | a :: b :: xs=>⟨a,b,c a⟩ :: stripL c (b :: xs)
 | _=>[]
theorem stripL_ok (c:Int→List (Int × Int)) (hc:∀ x,Can (c x)):∀ (a:Int) (xs:List Int),(a :: xs).Pairwise (· < ·)→gapless a (stripL c (a :: xs))
 | a,[],_=>trivial
 | a,b :: xs,hp=>by
  rw [List.pairwise_cons] at hp
  exact ⟨rfl,hp.1 b (by simp),hc a,stripL_ok c hc b xs hp.2⟩
theorem stripL_gap (c:Int→List (Int × Int)) (hc:∀ x,Can (c x)) (xs:List Int) (hp:xs.Pairwise (· < ·)):∃ b,gapless b (stripL c xs):=by
 cases xs with
 | nil=>exact ⟨0,trivial⟩
 | cons a xs=>exact ⟨a,stripL_ok c hc a xs hp⟩
theorem stripL_cell (c:Int→List (Int × Int)) (S:Int→Int→Bool):∀ (xs:List Int),xs.Pairwise (· < ·) →
  (∀ (a b:Int),(∃ p q,xs=p++a :: b :: q)→∀ x,a≤x→x<b→∀ y,S x y=hasS (c a) y)→(∀ x,(∀ a∈xs,x<a)→∀ y,S x y=false)→(∀ x,(∀ a∈xs,a≤x)→∀ y,S x y=false)→∀ x y,cellT (stripL c xs) x y=S x y
 | [],_,_,h1,_,x,y=>by rw [h1 x fun a ha=>by cases ha];rfl
 | [a],_,_,h1,h2,x,y=>by
  by_cases q:x<a
  ·rw [h1 x fun b hb=>by rw [List.mem_singleton.1 hb];exact q];rfl
  ·rw [h2 x fun b hb=>by rw [List.mem_singleton.1 hb];omega];rfl
 | a :: b :: xs,hp,hc,h1,h2,x,y=>by
  have hp':=List.pairwise_cons.1 hp
  have hab:=hp'.1 b (by simp)
  have hb:∀ d∈b :: xs,b≤d:=fun d hd=>by
   rcases List.mem_cons.1 hd with rfl | hd
   ·exact Int.le_refl _
   ·have:=(List.pairwise_cons.1 hp'.2).1 d hd;omega
  have ih:=stripL_cell c (fun x y=>decide (b≤x) && S x y) (b :: xs) hp'.2 (fun d e ⟨p,q,e1⟩ x hx hxe y=>by
   have:b≤d:=hb d (by rw [e1];simp)
   have h3:=hc d e ⟨a :: p,q,by rw [e1];rfl⟩ x hx hxe y
   rw [h3]
   have:decide (b≤x)=true:=by simp;omega
   rw [this,Bool.true_and]) (fun x hx y=>by
    have:=hx b (by simp)
    have:decide (b≤x)=false:=by simp;omega
    rw [this,Bool.false_and]) (fun x hx y=>by
    rw [h2 x (fun d hd => by rcases List.mem_cons.1 hd with rfl | hd; · have := hx b (by simp); omega
                             ·exact hx d hd) y,Bool.and_false]) x y
  show ((decide (a≤x) && decide (x<b) && hasS (c a) y) || cellT (stripL c (b :: xs)) x y)=_
  rw [ih]
  by_cases q1:b≤x
  ·have a1:decide (x<b)=false:=by simp;omega
   simp [q1,a1]
  ·have a1:decide (b≤x)=false:=by simpa using q1
   have a2:decide (x<b)=true:=by simp;omega
   rw [a1,a2,Bool.false_and,Bool.or_false,Bool.and_true]
   by_cases q2:a≤x
   ·rw [hc a b ⟨[],xs,rfl⟩ x q2 (by omega) y];simp [q2]
   ·rw [h1 x fun d hd=>by
     rcases List.mem_cons.1 hd with rfl | hd
     ·omega
     ·have:=hb d hd;omega]
    simp [q2]
theorem between {xs p q:List Int} {a b e:Int} (hp:xs.Pairwise (· < ·)) (hx:xs=p++a :: b :: q) (he:e∈xs):e≤a∨b≤e:=by
 subst hx
 rw [List.pairwise_append] at hp
 obtain ⟨_,h2,h3⟩:=hp
 rcases List.mem_append.1 he with h | h
 ·exact .inl (Int.le_of_lt (h3 e h a (by simp)))
 ·rcases List.mem_cons.1 h with rfl | h
  ·exact .inl (Int.le_refl _)
  ·rcases List.mem_cons.1 h with rfl | h
   ·exact .inr (Int.le_refl _)
   ·have:=(List.pairwise_cons.1 (List.pairwise_cons.1 h2).2).1 e h
    exact .inr (Int.le_of_lt this)
theorem first_mem {xs p q:List Int} {a b:Int} (hx:xs=p++a :: b :: q):a∈xs:=by rw [hx];simp
def EdgesX (l:List Rect) (xs:List Int):Prop:=∀ r∈l,r.x0∈xs∧r.x1∈xs
structure Steps (l:List Rect) (S:Int→Int→Bool):Prop where
 same:∀ x x',(∀ r∈l,(r.x0≤x↔r.x0≤x')∧(x<r.x1↔x'<r.x1))→∀ y,S x y=S x' y
 none:∀ x,(∀ r∈l,¬ (r.x0≤x∧x<r.x1))→∀ y,S x y=false
theorem any_ext {α:Type} {l:List α} {p q:α→Bool} (h:∀ a∈l,p a=q a):l.any p=l.any q:=by
 induction l with
 | nil=>rfl
 | cons a l ih=>rw [List.any_cons,List.any_cons,h a (by simp),ih fun b hb=>h b (by simp [hb])]
theorem cell_steps (l:List Rect):Steps l (cell l):=by
 refine ⟨fun x x' h y=>any_ext fun r hr=>?_,fun x h y=>List.any_eq_false.2 fun r hr=>?_⟩
 ·obtain ⟨h1,h2⟩:=h r hr
  unfold Rect.has
  simp only [h1,h2]
 ·have:=h r hr
  unfold Rect.has
  simp only [Bool.and_eq_true,decide_eq_true_eq]
  exact fun q=>this q.1
theorem Steps.mono {l m:List Rect} {S:Int→Int→Bool} (h:Steps l S) (hlm:∀ r∈l,r∈m):Steps m S :=
 ⟨fun x x' k=>h.same x x' fun r hr=>k r (hlm r hr),fun x k=>h.none x fun r hr=>k r (hlm r hr)⟩
theorem Steps.op {l:List Rect} {S T:Int→Int→Bool} (h:Steps l S) (k:Steps l T) (f:Bool→Bool→Bool) (hf:f false false=false):Steps l fun x y=>f (S x y) (T x y) :=
 ⟨fun x x' e y=>by rw [h.same x x' e,k.same x x' e],fun x e y=>by rw [h.none x e,k.none x e,hf]⟩
theorem strips_form {l:List Rect} {S:Int→Int→Bool} (hS:Steps l S) {xs:List Int} (hp:xs.Pairwise (· < ·)) (hE:EdgesX l xs) (c:Int→List (Int × Int)) (hc:∀ x,Can (c x)) (hcol:∀ x∈xs,∀ y,hasS (c x) y=S x y) :
  Form (outT (runsF (stripL c xs)))∧∀ x y,cell (outT (runsF (stripL c xs))) x y=S x y:=by
 obtain ⟨b,hg⟩:=stripL_gap c hc xs hp
 obtain ⟨h1,h2⟩:=Form.runs hg
 refine ⟨h1,fun x y=>?_⟩
 rw [h2,stripL_cell c S xs hp (fun a b ⟨p,q,e⟩ x hx hxb y=>?_) (fun x hx y=>hS.none x (fun r hr h=>?_) y) (fun x hx y=>hS.none x (fun r hr h=>?_) y)]
 ·rw [hcol a (first_mem e)]
  refine hS.same x a (fun r hr=>?_) y
  have q0:=between hp e (hE r hr).1
  have q1:=between hp e (hE r hr).2
  omega
 ·have:=hx _ (hE r hr).1;omega
 ·have:=hx _ (hE r hr).2;omega
open Classical in
noncomputable def norm (S:Int→Int→Bool):List Rect:=if h:∃ l,Form l∧∀ x y,cell l x y=S x y then h.choose else []
theorem norm_eq {S:Int→Int→Bool} {l:List Rect} (h:Form l) (e:∀ x y,cell l x y=S x y):norm S=l:=by
 have k:∃ l,Form l∧∀ x y,cell l x y=S x y:=⟨l,h,e⟩
 unfold norm
 rw [dif_pos k]
 exact k.choose_spec.1.ext h fun x y=>by rw [k.choose_spec.2,e]
def insU (z:Int):List Int→List Int
 | []=>[z]
 | a :: l=>if z<a then z :: a :: l else if z=a then a :: l else a :: insU z l
def sortU:List Int→List Int
 | []=>[]
 | z :: l=>insU z (sortU l)
theorem insU_mem {z w:Int}:∀ {l:List Int},w∈insU z l↔w=z∨w∈l
 | []=>by simp [insU]
 | a :: l=>by
  unfold insU
  split
  ·simp
  ·split
   ·rename_i h;simp [h]
   ·rw [List.mem_cons,insU_mem,List.mem_cons]
    constructor
    ·rintro (h | h | h) <;> simp [h]
    ·rintro (h | h | h) <;> simp [h]
theorem insU_asc {z:Int}:∀ {l:List Int},l.Pairwise (· < ·)→(insU z l).Pairwise (· < ·)
 | [],_=>List.pairwise_singleton _ _
 | a :: l,h=>by
  have h':=List.pairwise_cons.1 h
  unfold insU
  split
  ·rename_i q
   exact List.pairwise_cons.2 ⟨fun b hb => by rcases List.mem_cons.1 hb with rfl | hb; · exact q
                                              ·have:=h'.1 b hb;omega,h⟩
  ·split
   ·exact h
   ·exact List.pairwise_cons.2 ⟨fun b hb => by rcases insU_mem.1 hb with rfl | hb; · omega
                                               ·exact h'.1 b hb,insU_asc h'.2⟩
theorem sortU_mem {w:Int}:∀ {l:List Int},w∈sortU l↔w∈l
 | []=>Iff.rfl
 | z :: l=>by unfold sortU;rw [insU_mem,sortU_mem,List.mem_cons]
theorem sortU_asc:∀ (l:List Int),(sortU l).Pairwise (· < ·)
 | []=>.nil
 | _ :: l=>insU_asc (sortU_asc l)
theorem asc_ext:∀ {l m:List Int},l.Pairwise (· < ·)→m.Pairwise (· < ·)→(∀ z,z∈l↔z∈m)→l=m
 | [],[],_,_,_=>rfl
 | [],b :: m,_,_,e=>by have:=(e b).2 (by simp);cases this
 | a :: l,[],_,_,e=>by have:=(e a).1 (by simp);cases this
 | a :: l,b :: m,h,k,e=>by
  have h':=List.pairwise_cons.1 h
  have k':=List.pairwise_cons.1 k
  have e1:a=b:=by
   have q1:=(e a).1 (by simp)
   have q2:=(e b).2 (by simp)
   rcases List.mem_cons.1 q1 with q | q
   ·exact q
   ·rcases List.mem_cons.1 q2 with p | p
    ·exact p.symm
    ·have:=k'.1 a q;have:=h'.1 b p;omega
  subst e1
  rw [asc_ext h'.2 k'.2 fun z=>?_]
  constructor
  ·intro hz
   have hlt:=h'.1 z hz
   rcases List.mem_cons.1 ((e z).1 (by simp [hz])) with q | q
   ·omega
   ·exact q
  ·intro hz
   have hlt:=k'.1 z hz
   rcases List.mem_cons.1 ((e z).2 (by simp [hz])) with q | q
   ·omega
   ·exact q
structure StepsY (l:List Rect) (S:Int→Bool):Prop where
 same:∀ y y',(∀ r∈l,(r.y0≤y↔r.y0≤y')∧(y<r.y1↔y'<r.y1))→S y=S y'
 none:∀ y,(∀ r∈l,¬ (r.y0≤y∧y<r.y1))→S y=false
theorem col_ex {l:List Rect} {S:Int→Bool} (h:StepsY l S):∃ c,Can c∧∀ y,hasS c y=S y:=by
 have hp:=sortU_asc (l.flatMap fun r=>[r.y0,r.y1])
 have hm:∀ r∈l,r.y0∈sortU (l.flatMap fun r=>[r.y0,r.y1])∧r.y1∈sortU (l.flatMap fun r=>[r.y0,r.y1]):=fun r hr=>by
  rw [sortU_mem,sortU_mem]
  exact ⟨List.mem_flatMap.2 ⟨r,hr,by simp⟩,List.mem_flatMap.2 ⟨r,hr,by simp⟩⟩
 generalize sortU (l.flatMap fun r=>[r.y0,r.y1])=ys at hp hm
 have e0:∀ e,CanE ([]:List (Int × Int)) e:=fun e=>⟨trivial,fun s hs=>by cases hs⟩
 refine ⟨keepS S [] ys,?_,fun y=>keepS_has S S ys hp (fun a b ⟨p,q,e⟩ y hy hyb=>h.same y a fun r hr=>?_) (fun y hy=>h.none y fun r hr k=>?_) (fun y hy=>h.none y fun r hr k=>?_) y⟩
 ·cases ys with
  | nil=>trivial
  | cons a ys=>exact (keepS_ok S (a :: ys) [] a hp (e0 a) fun b hb=>by
    rcases List.mem_cons.1 hb with rfl | hb
    ·exact Int.le_refl _
    ·exact Int.le_of_lt ((List.pairwise_cons.1 hp).1 b hb)).1
 ·have q0:=between hp e (hm r hr).1
  have q1:=between hp e (hm r hr).2
  omega
 ·have:=hy _ (hm r hr).1;omega
 ·have:=hy _ (hm r hr).2;omega
structure Made (l:List Rect) (S:Int→Int→Bool):Prop where
 x:Steps l S
 y:∀ x,StepsY l (S x)
theorem Made.mono {l m:List Rect} {S:Int→Int→Bool} (h:Made l S) (hlm:∀ r∈l,r∈m):Made m S :=
 ⟨h.x.mono hlm,fun x=>⟨fun y y' k=>(h.y x).same y y' fun r hr=>k r (hlm r hr),fun y k=>(h.y x).none y fun r hr=>k r (hlm r hr)⟩⟩
theorem Made.op {l:List Rect} {S T:Int→Int→Bool} (h:Made l S) (k:Made l T) (f:Bool→Bool→Bool) (hf:f false false=false):Made l fun x y=>f (S x y) (T x y) :=
 ⟨h.x.op k.x f hf,fun x=>⟨fun y y' e=>by rw [(h.y x).same y y' e,(k.y x).same y y' e],fun y e=>by rw [(h.y x).none y e,(k.y x).none y e,hf]⟩⟩
theorem Made.form {l:List Rect} {S:Int→Int→Bool} (h:Made l S):Form (norm S)∧∀ x y,cell (norm S) x y=S x y:=by
 have key:∃ m,Form m∧∀ x y,cell m x y=S x y:=by
  have hm:EdgesX l (sortU (l.flatMap fun r=>[r.x0,r.x1])):=fun r hr=>by
   rw [sortU_mem,sortU_mem]
   exact ⟨List.mem_flatMap.2 ⟨r,hr,by simp⟩,List.mem_flatMap.2 ⟨r,hr,by simp⟩⟩
  have hc:=fun x=>col_ex (h.y x)
  have:=strips_form h.x (sortU_asc _) hm (fun x=>(hc x).choose) (fun x=>(hc x).choose_spec.1) fun x _ y=>(hc x).choose_spec.2 y
  exact ⟨_,this.1,this.2⟩
 obtain ⟨m,h1,h2⟩:=key
 rw [norm_eq h1 h2]
 exact ⟨h1,h2⟩
def sumN:Nat→(Int→Int)→Int
 | 0,_=>0
 | n+1,f=>sumN n f+f n
def bi (b:Bool):Int:=if b then 1 else 0
theorem sumN_congr {f g:Int→Int}:∀ {n:Nat},(∀ i:Nat,i<n→f i=g i)→sumN n f=sumN n g
 | 0,_=>rfl
 | n+1,h=>by
  show sumN n f+f n=sumN n g+g n
  rw [sumN_congr fun i hi=>h i (by omega),h n (by omega)]
theorem sumN_add {f g:Int→Int}:∀ {n:Nat},sumN n (fun i=>f i+g i)=sumN n f+sumN n g
 | 0=>rfl
 | n+1=>by
  show sumN n _+(f n+g n)=(sumN n f+f n)+(sumN n g+g n)
  rw [sumN_add];omega
theorem sumN_zero:∀ {n:Nat},sumN n (fun _=>0)=0
 | 0=>rfl
 | n+1=>by show sumN n _+0=0;rw [sumN_zero];rfl
theorem sumN_mul {f:Int→Int} {c:Int}:∀ {n:Nat},sumN n (fun i=>f i * c)=sumN n f * c
 | 0=>by simp [sumN]
 | n+1=>by
  show sumN n _+f n * c=(sumN n f+f n) * c
  rw [sumN_mul,Int.add_mul]
theorem sumN_span {a b:Int}:∀ {n:Nat},0≤a→a≤b→sumN n (fun i=>bi (decide (a≤i) && decide (i<b)))=min b n-min a n
 | 0,ha,hab=>by
  show (0:Int)=_
  omega
 | n+1,ha,hab=>by
  show sumN n _+bi (decide (a≤(n:Int)) && decide ((n:Int)<b))=_
  rw [sumN_span ha hab]
  unfold bi
  by_cases q:a≤(n:Int)∧(n:Int)<b
  ·rw [if_pos (by simpa using q)];omega
  ·rw [if_neg (by simpa using q)];omega
def cnt (n:Nat) (S:Int→Int→Bool):Int:=sumN n fun x=>sumN n fun y=>bi (S x y)
theorem cnt_congr {n:Nat} {S T:Int→Int→Bool} (h:∀ x y,S x y=T x y):cnt n S=cnt n T :=
 sumN_congr fun i _=>sumN_congr fun j _=>by rw [h]
theorem cnt_add {n:Nat} {S T U V:Int→Int→Bool} (h:∀ x y,bi (S x y)+bi (T x y)=bi (U x y)+bi (V x y)):cnt n S+cnt n T=cnt n U+cnt n V:=by
 unfold cnt
 rw [← sumN_add,← sumN_add]
 refine sumN_congr fun i _=>?_
 rw [← sumN_add,← sumN_add]
 exact sumN_congr fun j _=>h i j
theorem cnt_none {n:Nat}:cnt n (fun _ _=>false)=0:=by
 unfold cnt
 rw [sumN_congr (g:=fun _=>0) fun i _=>by rw [sumN_congr (g:=fun _=>0) fun j _=>rfl,sumN_zero]]
 exact sumN_zero
def Rect.area (r:Rect):Int:=(r.x1-r.x0) * (r.y1-r.y0)
def areaL:List Rect→Int
 | []=>0
 | r :: l=>r.area+areaL l
theorem areaL_append:∀ (l m:List Rect),areaL (l++m)=areaL l+areaL m
 | [],m=>by simp [areaL]
 | r :: l,m=>by show r.area+areaL (l++m)=r.area+areaL l+areaL m;rw [areaL_append];omega
def Rect.inBox (n:Int) (r:Rect):Prop:=0≤r.x0∧r.x0<r.x1∧r.x1≤n∧0≤r.y0∧r.y0<r.y1∧r.y1≤n
def lenS:List (Int × Int)→Int
 | []=>0
 | s :: l=>(s.2-s.1)+lenS l
theorem cntS {n:Nat}:∀ {l:List (Int × Int)} {b:Int},canS b l→0≤b+1→(∀ s∈l,s.2≤n)→sumN n (fun y=>bi (hasS l y))=lenS l
 | [],_,_,_,_=>by
  show sumN n (fun y=>bi false)=0
  exact sumN_zero
 | (f,t) :: l,b,h,hb,hn=>by
  have h1:=h.1
  have h2:=h.2.1
  have ih:=cntS (n:=n) h.2.2 (by omega) fun s hs=>hn s (by simp [hs])
  have ht:=hn (f,t) (by simp)
  simp only at ht
  have e:sumN n (fun y=>bi (hasS ((f,t) :: l) y))=sumN n (fun y=>bi (decide (f≤y) && decide (y<t))+bi (hasS l y)):=sumN_congr fun y _=>by
   rw [hasS_cons]
   by_cases q:(y:Int)≤t
   ·rw [canS_low h.2.2 q,Bool.or_false]
    show _=_+bi false
    unfold bi;simp
   ·have a1:decide ((y:Int)<t)=false:=by simp;omega
    rw [a1,Bool.and_false,Bool.false_or]
    show _=bi false+_
    unfold bi;simp
  rw [e,sumN_add,ih,sumN_span (by omega) (by omega)]
  show _=(t-f)+lenS l
  omega
theorem area_emit (s:Slab):areaL (emit s)=(s.x1-s.x0) * lenS s.col:=by
 obtain ⟨a,b,c⟩:=s
 show areaL (c.map fun s=>(⟨a,s.1,b,s.2⟩:Rect))=(b-a) * lenS c
 induction c with
 | nil=>simp [areaL,lenS]
 | cons s c ih =>
  show (b-a) * (s.2-s.1)+areaL (c.map _)=(b-a) * ((s.2-s.1)+lenS c)
  rw [ih,Int.mul_add]
theorem cnt_slabs {n:Nat}:∀ {T:List Slab} {b:Int} {c:List (Int × Int)},canT b c T→(∀ r∈outT T,r.inBox n)→cnt n (cellT T)=areaL (outT T)
 | [],_,_,_,_=>cnt_none
 | s :: T,b,c,h,hb=>by
  have h2:=h.2.1
  have e0:outT (s :: T)=emit s++outT T:=rfl
  rw [e0] at hb
  have ih:=cnt_slabs h.2.2.2.2.2 fun r hr=>hb r (List.mem_append.2 (.inr hr))
  have key:=cnt_add (n:=n) (S:=cellT (s :: T)) (T:=fun _ _=>false) (U:=fun x y=>decide (s.x0≤x) && decide (x<s.x1) && hasS s.col y) (V:=cellT T) fun x y=>by
   rw [cellT_cons]
   by_cases q:x<s.x1
   ·rw [canT_low h.2.2.2.2.2 q,Bool.or_false]
   ·have a1:decide (x<s.x1)=false:=by simpa using q
    rw [a1,Bool.and_false,Bool.false_and,Bool.false_or]
    unfold bi;simp
  rw [cnt_none,ih] at key
  obtain ⟨d,hd⟩:∃ d,d∈s.col:=by
   cases hc:s.col with
   | nil=>exact absurd hc h.2.2.1
   | cons d l=>exact ⟨d,by simp⟩
  have hr:∀ d∈s.col,Rect.inBox n ⟨s.x0,d.1,s.x1,d.2⟩:=fun d hd=>hb _ (List.mem_append.2 (.inl (List.mem_map.2 ⟨d,hd,rfl⟩)))
  obtain ⟨r1,r2,rr3,_⟩:=hr d hd
  simp only at r1 r2 rr3
  have hcol:sumN n (fun y=>bi (hasS s.col y))=lenS s.col:=cntS (b:=-1) (canS_ex h.2.2.2.1 (-1) fun d hd=>by have:=(hr d hd).2.2.2.1;simp only at this;omega) (by decide) fun d hd=>(hr d hd).2.2.2.2.2
  have e1:cnt n (fun x y=>decide (s.x0≤x) && decide (x<s.x1) && hasS s.col y)=(s.x1-s.x0) * lenS s.col:=by
   unfold cnt
   rw [sumN_congr (g:=fun x=>bi (decide (s.x0≤x) && decide (x<s.x1)) * lenS s.col) fun x _=>?_,sumN_mul,sumN_span r1 (by omega)]
   ·congr 1;omega
   ·rw [← hcol]
    have hq:∀ q:Bool,sumN n (fun y=>bi (q && hasS s.col y))=bi q * sumN n (fun y=>bi (hasS s.col y)):=fun q=>by
     cases q
     ·show sumN n (fun _=>0)=0 * _
      rw [sumN_zero];simp
     ·show sumN n (fun y=>bi (hasS s.col y))=1 * _
      simp
    exact hq _
  rw [e0,areaL_append,area_emit,← e1]
  omega
theorem area_form {n:Nat} {l:List Rect} (h:Form l) (hb:∀ r∈l,r.inBox n):areaL l=cnt n (cell l):=by
 obtain ⟨b,T,h1,rfl⟩:=h
 rw [← cnt_slabs h1 hb]
 exact cnt_congr fun x y=>(cell_outT T x y).symm
def nb (b:Bool):Nat:=if b then 1 else 0
theorem and_no {p q:Prop} [Decidable p] [Decidable q] (h:¬ (p∧q)):(decide p && decide q)=false:=by
 rw [Bool.eq_false_iff]
 intro k
 rw [Bool.and_eq_true,decide_eq_true_eq,decide_eq_true_eq] at k
 exact h k
structure Det (R:List Rect) (S:Int→Int→Bool):Prop where
 same:∀ x y x' y',(∀ r∈R,r.has x y=r.has x' y')→S x y=S x' y'
 none:∀ x y,(∀ r∈R,r.has x y=false)→S x y=false
theorem Det.mono {l m:List Rect} {S:Int→Int→Bool} (h:Det l S) (hlm:∀ r∈l,r∈m):Det m S :=
 ⟨fun x y x' y' k=>h.same x y x' y' fun r hr=>k r (hlm r hr),fun x y k=>h.none x y fun r hr=>k r (hlm r hr)⟩
theorem Det.op {l:List Rect} {S T:Int→Int→Bool} (h:Det l S) (k:Det l T) (f:Bool→Bool→Bool) (hf:f false false=false):Det l fun x y=>f (S x y) (T x y) :=
 ⟨fun x y x' y' e=>by rw [h.same x y x' y' e,k.same x y x' y' e],fun x y e=>by rw [h.none x y e,k.none x y e,hf]⟩
theorem Det.congr {l:List Rect} {S T:Int→Int→Bool} (h:Det l S) (e:∀ x y,T x y=S x y):Det l T :=
 ⟨fun x y x' y' k=>by rw [e,e];exact h.same x y x' y' k,fun x y k=>by rw [e];exact h.none x y k⟩
theorem Det.made {l:List Rect} {S:Int→Int→Bool} (h:Det l S):Made l S:=by
 refine ⟨⟨fun x x' k y=>h.same x y x' y fun r hr=>?_,fun x k y=>h.none x y fun r hr=>?_⟩,fun x=>⟨fun y y' k=>h.same x y x y' fun r hr=>?_,fun y k=>h.none x y fun r hr=>?_⟩⟩
 ·obtain ⟨h1,h2⟩:=k r hr
  unfold Rect.has;simp only [h1,h2]
 ·have:=k r hr
  unfold Rect.has;rw [and_no this,Bool.false_and]
 ·obtain ⟨h1,h2⟩:=k r hr
  unfold Rect.has;simp only [h1,h2]
 ·have:=k r hr
  unfold Rect.has;rw [and_no this,Bool.and_false]
def ends (c:List (Int × Int)):List Int:=c.flatMap fun s=>[s.1,s.2]
theorem ends_len (c:List (Int × Int)):(ends c).length=2 * c.length:=by
 induction c with
 | nil=>rfl
 | cons s c ih =>
  show (ends c).length+1+1=2 * (c.length+1)
  rw [ih];omega
theorem canT_facts:∀ {T:List Slab} {b:Int} {c:List (Int × Int)},canT b c T→(T.map (·.x0)).Pairwise (· < ·)∧∀ s∈T,b≤s.x0∧s.x0<s.x1∧Can s.col
 | [],_,_,_=>⟨.nil,fun s hs=>by cases hs⟩
 | u :: T,b,c,h=>by
  obtain ⟨i1,i2⟩:=canT_facts h.2.2.2.2.2
  have h1:=h.1
  have h2:=h.2.1
  refine ⟨List.pairwise_cons.2 ⟨fun z hz=>?_,i1⟩,fun s hs=>?_⟩
  ·obtain ⟨s,hs,rfl⟩:=List.mem_map.1 hz
   have:=(i2 s hs).1
   show u.x0<s.x0
   omega
  ·rcases List.mem_cons.1 hs with rfl | hs
   ·exact ⟨h1,h2,h.2.2.2.1⟩
   ·have:=i2 s hs
    exact ⟨by omega,this.2⟩
end Go.Proofs.YtplebjehcgcdeaaGreatDoor.Rg
