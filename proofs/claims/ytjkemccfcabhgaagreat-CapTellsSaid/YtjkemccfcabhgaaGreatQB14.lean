/-
 A copy of a list: of an empty one it is not known whether it is nil. Conditions: the function's contract at lists of no elements.
-/
import Derived.Test.YtjkemccfcabhgaaGreatQB11
import Derived.Test.YtjkemccfcabhgaaGreatQB13
import Derived.Sort.Row
import Derived.Sort.Grow
import Derived.Lib.SlicesCompact
import Derived.Test.YtjkemccfcabhgaaGreatChecked
import Derived.WalkKit
import Derived.Sort.AssemblyPlain
import Derived.Sort.Defs
import Derived.Shelf.SlSortCmp.Insertion
import Derived.Shelf.GgSortFunc.RowK
namespace Go.Proofs.YtjkemccfcabhgaaGreat.Bm
open Go Go.RowKit
def depsT (P : Program) (t : TypeId) : List TypeId := match P.underlying t with
 | some (.slice e) => [e]
 | some (.struct fs) => fs.toList.map (·.type)
 | some (.array _ e) => [e]
 | _ => []
def addT (L : List TypeId) : List TypeId → List TypeId
 | [] => L
 | t :: l => addT (if L.contains t then L else L ++ [t]) l
def closeT (P : Program) : Nat → List TypeId → List TypeId
 | 0, L => L
 | n + 1, L => closeT P n (addT L (L.flatMap (depsT P)))
def fsOf (P : Program) (t : TypeId) : Option (List (Nat × TypeId)) := match P.underlying t with
 | some (.struct fs) => some (fs.toList.map fun f => (f.offset, f.type))
 | _ => none
section
variable {P : Program} {n : Nat} {t : TypeId} {c : List Value}
theorem wt_int {k : IntKind} (hu : P.underlying t = some (.int k)) (h : Wt P n t c) : ∃ z, c = [.int k z] ∧ (Lit.int k z).wf = true := by
 cases n with
 | zero => exact h.elim
 | succ n => unfold Wt at h; rw [hu] at h; exact h
theorem wt_bool (hu : P.underlying t = some .bool) (h : Wt P n t c) : ∃ b, c = [.bool b] := by
 cases n with
 | zero => exact h.elim
 | succ n => unfold Wt at h; rw [hu] at h; exact h
theorem wt_str (hu : P.underlying t = some .string) (h : Wt P n t c) : ∃ s : ByteArray, c = [.string s] ∧ s.size ≤ maxLen := by
 cases n with
 | zero => exact h.elim
 | succ n => unfold Wt at h; rw [hu] at h; exact h
theorem wt_slice {e : TypeId} (hu : P.underlying t = some (.slice e)) (h : Wt P n t c) : ∃ ls : List (List Value), c = [lst false (ls.map (elemV P e))] ∧ ls.length ≤ maxLen ∧ ∀ x ∈ ls, ∃ m, Wt P m e x := by
 cases n with
 | zero => exact h.elim
 | succ n =>
  unfold Wt at h; rw [hu] at h
  obtain ⟨ls, h1, h2, h3⟩ := h
  exact ⟨ls, h1, h2, fun x hx => ⟨n, h3 x hx⟩⟩
theorem wt_struct {L : List (Nat × TypeId)} (hu : fsOf P t = some L) (h : Wt P n t c) : c.length = P.cellsOf t ∧ ∀ x ∈ L, ∃ m, Wt P m x.2 ((c.drop x.1).take (P.cellsOf x.2)) := by
 cases n with
 | zero => exact h.elim
 | succ n =>
  unfold fsOf at hu
  unfold Wt at h
  cases hd : P.underlying t with
  | none => rw [hd] at hu; cases hu
  | some d =>
   rw [hd] at hu h
   cases d <;> try (cases hu; done)
   simp only [Option.some.injEq] at hu
   subst hu
   refine ⟨h.1, fun x hx => ?_⟩
   obtain ⟨f, hf, rfl⟩ := List.mem_map.1 hx
   exact ⟨n, h.2 f hf⟩
theorem choose_list {α : Type} {cells : α → List Value} {Q : α → Prop} : ∀ (ls : List (List Value)), (∀ x ∈ ls, ∃ a, x = cells a ∧ Q a) → ∃ aas : List α, ls = aas.map cells ∧ ∀ a ∈ aas, Q a
 | [], _ => ⟨[], rfl, fun a h => by simp at h⟩
 | x :: ls, h => by
  obtain ⟨a, h1, h2⟩ := h x (by simp)
  obtain ⟨aas, k1, k2⟩ := choose_list ls fun y hy => h y (by simp [hy])
  refine ⟨a :: aas, by simp [h1, k1], fun b hb => ?_⟩
  rcases List.mem_cons.1 hb with e | e
  ·rw [e]; exact h2
  ·exact k2 b e
theorem wt_ints {k : IntKind} {e : TypeId} (hu : P.underlying t = some (.slice e)) (he : P.underlying e = some (.int k)) (h : Wt P n t c) : ∃ l : List Int, c = [lst false (l.map (.int k))] ∧ l.length ≤ maxLen ∧ ∀ z ∈ l, (Lit.int k z).wf = true := by
 obtain ⟨ls, rfl, h2, h3⟩ := wt_slice hu h
 obtain ⟨aas, rfl, k2⟩ := choose_list (cells := fun z => [Value.int k z]) (Q := fun z : Int => (Lit.int k z).wf = true) ls fun x hx => by
  obtain ⟨m, hm⟩ := h3 x hx
  exact wt_int he hm
 refine ⟨aas, ?_, by simpa using h2, k2⟩
 have ha : aggT P e = some false := by unfold aggT; rw [he]; rfl
 rw [List.map_map]
 congr 2
 apply List.map_congr_left
 intro x _
 simp [elemV, ha]
theorem wt_list {e : TypeId} (hu : P.underlying t = some (.slice e)) (h : Wt P n t c) : ∃ l : List Value, c = [lst false l] ∧ l.length ≤ maxLen := by
 obtain ⟨ls, rfl, h2, _⟩ := wt_slice hu h
 exact ⟨_, rfl, by simpa using h2⟩
theorem i64_wf {z : Int} (h : (Lit.int .i64 z).wf = true) : -9223372036854775808 ≤ z ∧ z ≤ 9223372036854775807 := by
 simpa [Lit.wf, IntKind.min, IntKind.max, IntKind.signed, IntKind.bits] using h
end
def okFuncs (P : Program) : Bool := P.funcs.toList.all fun fn => !(fn.name == "runtime.NumGoroutine") && (fn.body.all okCode)
theorem okProg_of {P : Program} (h1 : P.follows .mixedOrders = true) (h2 : okFuncs P = true) : OkProg P := by
 unfold okFuncs at h2
 rw [List.all_eq_true] at h2
 refine ⟨h1, fun f fn hf _ => ?_, fun f fn c hf hb => ?_⟩
 ·have := h2 fn (Array.mem_toList_iff.2 (Array.mem_of_getElem? hf))
  simp only [Bool.and_eq_true, Bool.not_eq_true'] at this
  exact this.1
 ·have := h2 fn (Array.mem_toList_iff.2 (Array.mem_of_getElem? hf))
  simp only [Bool.and_eq_true, hb] at this
  exact this.2
theorem noOrc {E : Env} (h : ∀ f, E.orc f = none) : OrcSound E :=
 ⟨fun f g hg => (by rw [h] at hg; cases hg), fun f g hg => (by rw [h] at hg; cases hg), fun f g hg => (by rw [h] at hg; cases hg)⟩
end Go.Proofs.YtjkemccfcabhgaaGreat.Bm
namespace Go.Proofs.YtjkemccfcabhgaaGreat.Bm
open Go Go.RowKit Go.Sort
def insI (z : Int) : List Int → List Int
 | [] => [z]
 | a :: l => if z ≤ a then z :: a :: l else a :: insI z l
def sortI : List Int → List Int
 | [] => []
 | z :: l => insI z (sortI l)
theorem insI_perm (z : Int) : ∀ l : List Int, (insI z l).Perm (z :: l)
 | [] => .refl _
 | a :: l => by
  unfold insI
  split
  ·exact .refl _
  ·exact ((insI_perm z l).cons a).trans (.swap z a l)
theorem sortI_perm : ∀ l : List Int, (sortI l).Perm l
 | [] => .refl _
 | z :: l => (insI_perm z _).trans ((sortI_perm l).cons z)
theorem insI_sorted (z : Int) : ∀ {l : List Int}, l.Pairwise (· ≤ ·) → (insI z l).Pairwise (· ≤ ·)
 | [], _ => List.pairwise_singleton _ _
 | a :: l, h => by
  have ⟨h1, h2⟩ := List.pairwise_cons.1 h
  unfold insI
  split
  ·rename_i hz
   refine List.pairwise_cons.2 ⟨fun b hb => ?_, h⟩
   rcases List.mem_cons.1 hb with rfl | hb
   ·exact hz
   ·exact Int.le_trans hz (h1 b hb)
  ·rename_i hz
   refine List.pairwise_cons.2 ⟨fun b hb => ?_, insI_sorted z h2⟩
   rcases List.mem_cons.1 ((insI_perm z l).mem_iff.1 hb) with rfl | hb
   ·omega
   ·exact h1 b hb
theorem sortI_sorted : ∀ l : List Int, (sortI l).Pairwise (· ≤ ·)
 | [] => .nil
 | z :: l => insI_sorted z (sortI_sorted l)
theorem sortI_eq (l : List Int) : l.mergeSort (fun x y => decide (x ≤ y)) = sortI l := by
 refine List.Perm.eq_of_pairwise (le := (· ≤ ·)) (fun a b _ _ h1 h2 => Int.le_antisymm h1 h2) ?_ (sortI_sorted l) ((List.mergeSort_perm l _).trans (sortI_perm l).symm)
 refine List.Pairwise.imp (fun h => of_decide_eq_true h) (List.pairwise_mergeSort (fun a b c h1 h2 => ?_) (fun a b => ?_) l)
 ·simp only [decide_eq_true_eq] at h1 h2 ⊢; omega
 ·simp only [Bool.or_eq_true, decide_eq_true_eq]; omega
def compG : Option Int → List Int → List Int
 | _, [] => []
 | p, a :: l => if p = some a then compG p l else a :: compG (some a) l
def compI (zs : List Int) : List Int := compG none zs
def compF (zs : List Int) : List Int := compI zs ++ List.replicate (zs.length - (compI zs).length) 0
def compN (zs : List Int) : Nat := (compI zs).length
theorem compG_snoc : ∀ (l : List Int) (p : Option Int) (x : Int), compG p (l ++ [x]) = compG p l ++ (if l.getLast?.or p = some x then [] else [x])
 | [], p, x => rfl
 | a :: l, p, x => by
  simp only [List.cons_append, compG]
  split
  ·rename_i e
   rw [compG_snoc l p x, e]
   cases l with
   | nil => rfl
   | cons b l => rw [List.getLast?_cons_cons]
  ·rw [compG_snoc l (some a) x]
   cases l with
   | nil => rfl
   | cons b l =>
    obtain ⟨y, hy⟩ : ∃ y, (b :: l).getLast? = some y := ⟨_, List.getLast?_eq_some_getLast (by simp)⟩
    rw [List.getLast?_cons_cons, hy]; rfl
theorem compG_len : ∀ (l : List Int) (p : Option Int), (compG p l).length ≤ l.length
 | [], _ => Nat.le_refl _
 | a :: l, p => by
  unfold compG
  split
  ·exact Nat.le_succ_of_le (compG_len l p)
  ·exact Nat.succ_le_succ (compG_len l _)
theorem compF_len (zs : List Int) : (compF zs).length = zs.length := by
 have := compG_len zs none
 unfold compF compI
 rw [List.length_append, List.length_replicate]
 omega
theorem compact_eq (zs : List Int) : Lib.compact zs = compI zs := by
 have key : ∀ m, m ≤ zs.length → Lib.compactUpTo zs.toArray m = compI (zs.take m) := by
  intro m
  induction m with
  | zero => intro _; simp [Lib.compactUpTo, compI, compG]
  | succ m ih =>
   intro hm
   have e : (zs.take m).getLast?.or none = if m = 0 then none else some zs[m - 1]! := by
    rw [Option.or_none]
    by_cases h0 : m = 0
    ·subst h0; rfl
    ·rw [if_neg h0, List.getLast?_eq_getElem?, List.length_take, Nat.min_eq_left (by omega), List.getElem?_take, if_pos (by omega)]
     have : m - 1 < zs.length := by omega
     simp [this]
   rw [Lib.compactUpTo_succ, ih (by omega), List.take_succ_eq_append_getElem hm, compI, compI, compG_snoc, e]
   congr 1
   unfold Lib.keeps
   have g1 : zs.toArray[m]! = zs[m] := by simp [show m < zs.length by omega]
   have g2 : zs.toArray[m - 1]! = zs[m - 1]! := by simp
   rw [g1, g2]
   generalize zs[m - 1]! = q
   generalize zs[m] = r
   by_cases h0 : m = 0
   ·simp [h0]
   ·by_cases h1 : r = q
    ·simp [h0, h1]
    ·have h2 : ¬ q = r := fun e => h1 e.symm
     simp [h0, h1, h2]
 have := key zs.length (Nat.le_refl _)
 rw [List.take_length] at this
 exact this
def retI (N : Option (List Int → Nat)) (a : Option Addr) (c : Nat) (zs : List Int) : Value := match N with
 | none => .tuple #[]
 | some m => .slice a (m zs) c
structure SortCon (P : Program) (f : FuncId) (F : List Int → List Int) (N : Option (List Int → Nat)) : Prop where
 row : ∀ (blk off cap : Nat) (zs : List Int) (w : World), Holds (Value.int .i64) w blk off zs.toArray → blk < w.heap.size → zs.length < 4611686018427387904 → zs.length ≤ cap →
  Calls P f #[.slice (some ⟨blk, off, none⟩) zs.length cap] w fun e w' => e = .returned (retI N (some ⟨blk, off, none⟩) cap zs) ∧ ∃ n os, w' = grow (putRow (Value.int .i64) (Go.Sort.ahead w n) blk off (F zs).toArray) os
 none : ∀ (p : Option Addr) (cap : Nat) (w : World), Calls P f #[.slice p 0 cap] w fun e w' => e = .returned (retI N p cap []) ∧ w' = w
 dfd : ∃ fn, P.funcs[f]? = some fn ∧ fn.body.isSome = true
 len : ∀ zs, (F zs).length = zs.length
 cut : ∀ m, N = some m → ∀ zs, m zs ≤ zs.length
def intsOf : List Value → Option (List Int)
 | [] => some []
 | .int .i64 z :: l => (intsOf l).map (z :: ·)
 | _ => none
theorem intsOf_eq : ∀ {l : List Value} {zs : List Int}, intsOf l = some zs → l = zs.map (.int .i64)
 | [], zs, h => by cases h; rfl
 | v :: l, zs, h => by
  unfold intsOf at h
  split at h
  ·rename_i e; cases e
  ·rename_i z l' e
   cases e
   obtain ⟨ys, h1, rfl⟩ := Option.map_eq_some_iff.1 h
   rw [intsOf_eq h1]; rfl
  ·cases h
theorem intsOf_map : ∀ zs : List Int, intsOf (zs.map (.int .i64)) = some zs
 | [] => rfl
 | z :: zs => by
  show (intsOf (zs.map (.int .i64))).map (z :: ·) = _
  rw [intsOf_map zs]; rfl
def inR (F : List Int → List Int) (N : Option (List Int → Nat)) (h : Heap) (lo : Nat) (a : Addr) (n c : Nat) : Option AObj → Res
 | some (.cells t row g) => (intsOf (row.take n)).bind fun zs => if lo ≤ a.block ∧ stampOk a.spot g row.length = true ∧ a.off = 0 ∧ n ≤ row.length ∧ n < 4611686018427387904 then
   some (retI N (some a) c zs, h.set a.block (.cells t ((F zs).map (.int .i64) ++ row.drop n) g)) else none
 | _ => none
def inG (F : List Int → List Int) (N : Option (List Int → Nat)) (args : List Value) (h : Heap) (lo : Nat) : Res :=
 match args with
 | [.slice (some a) n c] => if n = 0 then some (retI N (some a) c [], h) else inR F N h lo a n c h[a.block]?
 | [.slice none 0 0] => some (retI N none 0 [], h)
 | _ => none
theorem sortI_len (zs : List Int) : (sortI zs).length = zs.length := (sortI_perm zs).length_eq
theorem set_keep' {h : Heap} {lo o : Nat} {t t' : TypeId} {c d : List Value} {g g' : Nat} (hob : h[o]? = some (.cells t c g)) (hlo : lo ≤ o) : Keep lo h (h.set o (.cells t' d g')) := by
 refine ⟨by simp, fun p hp => ?_, fun p hp ha => ?_⟩
 ·rw [List.getElem?_set_ne (by omega)]
 ·by_cases he : o = p
  ·subst he; exact ⟨_, hob, by simp⟩
  ·obtain ⟨x, hx, hd⟩ := ha
   rw [List.getElem?_set_ne he] at hx
   exact ⟨x, hx, hd⟩
theorem inG_keep {F : List Int → List Int} {N : Option (List Int → Nat)} {args : List Value} {h h' : Heap} {lo : Nat} {v : Value} (hr : inG F N args h lo = some (v, h')) : Keep lo h h' := by
 unfold inG at hr
 split at hr
 ·split at hr
  ·cases hr; exact .refl _ _
  ·unfold inR at hr
   split at hr
   ·rename_i hob
    simp only [Option.bind_eq_some_iff, Option.ite_none_right_eq_some, Option.some.injEq, Prod.mk.injEq] at hr
    obtain ⟨zs, _, ⟨h1, _⟩, _, rfl⟩ := hr
    exact set_keep' hob h1
   ·cases hr
 ·cases hr; exact .refl _ _
 ·cases hr
section
variable {E : Env} {B lo : Nat} {M : Mem} {h h' : Heap} {w : World}
theorem put_eq {enc : Int → Value} {d : Array Int} {blk off : Nat} {cs : Array Value} {ty : TypeId} {fr : Nat × Nat} (hb : w.heap[blk]? = some (.cells cs ty fr)) : putRow enc w blk off d = w.setRow blk (putCells enc off d cs) := by
 unfold putRow mapBlock World.setRow
 congr 1
 apply Array.ext_getElem?
 intro i
 simp only [Array.getElem?_modify]
 split
 ·rename_i e
  subst e
  rw [hb]; rfl
 ·rfl
theorem putCells_get {enc : Int → Value} {d : Array Int} {off k : Nat} {c : Array Value} : (putCells enc off d c)[k]? = c[k]?.map fun x => if off ≤ k ∧ k < off + d.size then enc d[k - off]! else x := by
 unfold putCells
 rw [Array.getElem?_mapIdx]
theorem in_sound {f : FuncId} {F : List Int → List Int} {N : Option (List Int → Nat)} (hC : SortCon E.P f F N) {args : List Value} {v : Value} (hr : inG F N args h lo = some (v, h')) (_hlo : lo ≤ h.length) (args' : Array Value) (hs : HSim E B M h w) (hv : VRels M args args'.toList) :
  Calls E.P f args' w fun e w' => ∃ v', e = .returned v' ∧ Out E B lo M h w v h' v' w' := by
 have zero : ∀ m, N = some m → m [] = 0 := fun m hm => by have := hC.cut m hm []; simpa using this
 have nothing : ∀ (p q : Option Addr) (c cap : Nat), VRel M (.slice p 0 c) (.slice q 0 cap) → Calls E.P f #[.slice q 0 cap] w fun e w' => ∃ v', e = .returned v' ∧ Out E B lo M h w (retI N p c []) h v' w' := fun p q c cap hrel =>
  (hC.none q cap w).mono fun e w' he => ⟨retI N q cap [], he.1, by
   rw [he.2]
   refine ⟨M, ?_, hs, .refl hs lo⟩
   cases hN : N with
   | none => exact .top _
   | some m => simp only [retI, zero m hN]; exact hrel⟩
 unfold inG at hr
 split at hr
 ·rename_i a n c
  obtain ⟨v1, hv1, hrel⟩ := hv.get (i := 0) (u := .slice (some a) n c) rfl
  have hl1 : args'.toList.length = 1 := hv.1.symm
  have e1 : args' = #[v1] := by
   apply Array.ext'
   obtain ⟨y, hy⟩ := List.length_eq_one_iff.1 hl1
   rw [hy] at hv1 ⊢
   cases hv1; rfl
  subst e1
  split at hr
  ·rename_i h0
   cases hr; subst h0
   have hr2 := hrel
   rcases hrel.sliceSome with ⟨a', c', rfl, _, _⟩ | ⟨rfl, _, rfl, _⟩
   ·exact nothing (some a) (some a') c c' hr2
   ·exact nothing (some a) none 0 0 hr2
  ·rename_i h0
   unfold inR at hr
   split at hr
   case h_2 => cases hr
   rename_i t row g hob
   simp only [Option.bind_eq_some_iff, Option.ite_none_right_eq_some, Option.some.injEq, Prod.mk.injEq] at hr
   obtain ⟨zs, hz, ⟨h1, hst, hoff0, hn, hbig⟩, rfl, rfl⟩ := hr
   have hrow := intsOf_eq hz
   have hzl : zs.length = n := by
    have := congrArg List.length hrow
    simp only [List.length_take, List.length_map] at this
    omega
   rcases hrel.sliceSome with ⟨a', c', rfl, hlc, hcap⟩ | ⟨_, h0', _⟩
   case inr => exact absurd h0' h0
   have hcap0 := hcap
   obtain ⟨l, hl, hcap⟩ := hcap
   obtain ⟨hg, hlen, hnr, hre⟩ := hs.obj _ l t row g hl hob
   have hreal : l.real := by
    by_cases hr : l.real
    ·exact hr
    ·have := hnr hr; rw [this] at hn; simp at hn; omega
   obtain ⟨cs, ty, hb, hsz, hoff, hc⟩ := hre hreal
   have ha : a' = ⟨l.blk, l.off, none⟩ ∧ c ≤ c' := by
    unfold stampOk at hst
    split at hst
    ·rename_i e
     rw [e] at hcap
     rcases hcap.2.2 with k | k
     ·have := hcap.2.1; omega
     ·exact ⟨by rw [k, hoff0]; rfl, by have := hcap.2.1; omega⟩
    ·rename_i k g0 e
     rw [e] at hcap
     have := hcap.2.2 ((hlen (by omega)).trans (beq_iff_eq.1 hst).symm)
     rcases this.2 with k | k
     ·omega
     ·exact ⟨by rw [k.1, hoff0]; rfl, this.1⟩
    ·cases hst
   obtain ⟨rfl, hcc⟩ := ha
   have hlt := ((hs.dom _ l hl).2 hreal).2
   have hcell : ∀ j, j < zs.length → cs[l.off + j]? = some (.int .i64 zs[j]!) := by
    intro j hj
    have hj' : row[j]? = some (.int .i64 zs[j]!) := by
     have : (row.take n)[j]? = some (.int .i64 zs[j]!) := by rw [hrow]; simp [hj]
     rw [List.getElem?_take, if_pos (by omega)] at this
     exact this
    obtain ⟨_, v', q1, q2⟩ := hc j _ hj'
    rw [q1]
    cases q2; rfl
   have hH : Holds (Value.int .i64) w l.blk l.off zs.toArray := by
    intro j hj
    have hj : j < zs.length := by simpa using hj
    refine ⟨?_, ?_⟩
    ·have := hcell j hj
     simp only [World.cell?, hb, Option.isSome_none, Bool.false_eq_true, if_false]
     rw [this]; simp
    ·simp only [World.frozen?, hb]; simp
   have con := hC.row l.blk l.off c' zs w hH hlt (by omega) (by omega)
   rw [hzl] at con
   have hret : VRel M (retI N (some a) c zs) (retI N (some ⟨l.blk, l.off, none⟩) c' zs) := by
    cases hN : N with
    | none => exact .top _
    | some m =>
     have hm := hC.cut m hN zs
     exact .slice _ _ _ _ _ (show m zs ≤ c by omega) hcap0
   refine con.mono fun e w' he => ⟨_, he.1, ?_⟩
   obtain ⟨m, os, rfl⟩ := he.2
   have p1 : Past w (Go.Sort.ahead w m) := ⟨rfl, rfl, rfl, Nat.le_refl _, fun _ _ => rfl⟩
   have s1 : HSim E B M h (Go.Sort.ahead w m) := hs.past p1 (Ψ := M.phi) (fun _ _ _ k => k) (fun b x v k => hs.phi b x v k) (fun _ _ _ => rfl)
   have v1 : Evo lo M h w M h (Go.Sort.ahead w m) := Evo.past hs p1 (Ψ := M.phi) (fun _ _ _ k => k) (fun _ _ _ => rfl) lo
   have hb1 : (Go.Sort.ahead w m).heap[l.blk]? = some (.cells cs ty (0, 0)) := hb
   rw [put_eq hb1]
   have hFl : ((F zs).map (Value.int .i64)).length = n := by rw [List.length_map, hC.len, hzl]
   have hdl : ((F zs).map (Value.int .i64) ++ row.drop n).length = row.length := by rw [List.length_append, hFl, List.length_drop]; omega
   have hput := s1.put (lo := lo) (t := t) (c := row) (d := (F zs).map (.int .i64) ++ row.drop n) (g := g) (cs := putCells (Value.int .i64) l.off (F zs).toArray cs) hl hob hreal h1 (by simp [putCells, hsz]) (by rw [hdl]; exact hoff) (.inl hdl) (fun j v hj => by
    have hFz : (F zs).length = n := by rw [hC.len, hzl]
    by_cases hjn : j < n
    ·rw [List.getElem?_append_left (by rw [hFl]; exact hjn), List.getElem?_map, List.getElem?_eq_getElem (by rw [hFz]; exact hjn)] at hj
     cases hj
     refine ⟨rfl, _, ?_, .atom _ rfl⟩
     rw [putCells_get, hcell j (by omega)]
     have : l.off ≤ l.off + j ∧ l.off + j < l.off + (F zs).toArray.size := ⟨by omega, by simp; omega⟩
     simp only [Option.map_some, this, and_self, if_true]
     simp [hFz, hjn]
    ·rw [List.getElem?_append_right (by omega), hFl, List.getElem?_drop, show n + (j - n) = j by omega] at hj
     obtain ⟨q1, v', q2, q3⟩ := hc j v hj
     refine ⟨q1, v', ?_, q3⟩
     rw [putCells_get, q2]
     have : ¬ (l.off ≤ l.off + j ∧ l.off + j < l.off + (F zs).toArray.size) := by simp; omega
     simp only [Option.map_some, this, if_false])
   have hsame : M.put a.block { l with len := if g = 0 then l.len else ((F zs).map (Value.int .i64) ++ row.drop n).length } = M := by
    refine put_same ?_
    rw [hl]
    by_cases h0 : g = 0
    ·simp [h0]
    ·rw [if_neg h0, hdl, ← hlen h0]
   simp only [hsame] at hput
   obtain ⟨s2, v2⟩ := hput
   have p3 : Past ((Go.Sort.ahead w m).setRow l.blk (putCells (Value.int .i64) l.off (F zs).toArray cs)) (grow ((Go.Sort.ahead w m).setRow l.blk (putCells (Value.int .i64) l.off (F zs).toArray cs)) os) :=
    ⟨rfl, rfl, rfl, by simp [grow], fun b hb => by simp only [grow]; rw [Array.getElem?_append_left hb]⟩
   have ph : ∀ b x v, M.phi b x = some v → (grow ((Go.Sort.ahead w m).setRow l.blk (putCells (Value.int .i64) l.off (F zs).toArray cs)) os).cell? ⟨b, x, none⟩ = some v := fun b x v k => by
    have := s2.phi b x v k
    have hlt := cell_lt this
    simp only [World.cell?] at this ⊢
    rw [p3.block b hlt]; exact this
   have s3 := s2.past p3 (Ψ := M.phi) (fun _ _ _ k => k) ph (fun _ _ _ => rfl)
   have v3 := Evo.past s2 p3 (Ψ := M.phi) (fun _ _ _ k => k) (fun _ _ _ => rfl) lo
   exact ⟨M, hret, s3, (v1.trans v2).trans v3⟩
 ·cases hr
  obtain ⟨v1, hv1, hrel⟩ := hv.get (i := 0) (u := .slice none 0 0) rfl
  have hl1 : args'.toList.length = 1 := hv.1.symm
  have e1 : args' = #[v1] := by
   apply Array.ext'
   obtain ⟨y, hy⟩ := List.length_eq_one_iff.1 hl1
   rw [hy] at hv1 ⊢
   cases hv1; rfl
  subst e1
  have hr2 := hrel
  cases hrel
  exact nothing none none 0 0 hr2
 ·cases hr
theorem L_orc {f : FuncId} {g : List Value → Heap → Nat → Res} (hg : E.orc f = some g) (args : List Value) (h : Heap) : L E f args h lo = g args h lo := by
 rw [L_eq]
 unfold evCall
 rw [hg]
theorem inG_ints {F : List Int → List Int} {N : Option (List Int → Nat)} {b k n c g : Nat} {t : TypeId} {zs ys : List Int} (hob : h[b]? = some (.cells t ((zs ++ ys).map (.int .i64)) (g + 1))) (hlo : lo ≤ b) (hk : k = (zs ++ ys).length) (hn : n = zs.length) (h0 : n ≠ 0) (hbig : n < 4611686018427387904) :
  inG F N [.slice (some ⟨b, 0, some k⟩) n c] h lo = some (retI N (some ⟨b, 0, some k⟩) c zs, h.set b (.cells t ((F zs ++ ys).map (.int .i64)) (g + 1))) := by
 subst hk; subst hn
 show (if zs.length = 0 then _ else inR F N h lo ⟨b, 0, some (zs ++ ys).length⟩ zs.length c h[b]?) = _
 rw [if_neg h0, hob]
 have e1 : ((zs ++ ys).map (Value.int .i64)).take zs.length = zs.map (.int .i64) := by rw [List.map_append, List.take_left' (by simp)]
 have e2 : ((zs ++ ys).map (Value.int .i64)).drop zs.length = ys.map (.int .i64) := by rw [List.map_append, List.drop_left' (by simp)]
 show (intsOf (((zs ++ ys).map (Value.int .i64)).take zs.length)).bind _ = _
 rw [e1, intsOf_map, Option.bind_some, if_pos ⟨hlo, by simp [stampOk], rfl, by simp, hbig⟩, e2, List.map_append]
end
end Go.Proofs.YtjkemccfcabhgaaGreat.Bm
namespace Go.Proofs.YtjkemccfcabhgaaGreat.Bm
open Go Go.RowKit Go.Sort
structure CellCon (P : Program) (f q : FuncId) (k : Nat) (F : List Value → Option (List Value)) : Prop where
 row : ∀ (blk off cap n : Nat) (c d : List Value) (w : World), F c = some d → c.length = n * k → Holds id w blk off c.toArray → blk < w.heap.size → 0 < n → n < 4611686018427387904 → n ≤ cap →
  Calls P f #[.slice (some ⟨blk, off, none⟩) n cap, .func (.func q) #[] #[]] w fun e w' => e = .returned (.tuple #[]) ∧ ∃ m os, w' = grow (putRow id (Go.Sort.ahead w m) blk off d.toArray) os
 none : ∀ (p : Option Addr) (cap : Nat) (w : World), Calls P f #[.slice p 0 cap, .func (.func q) #[] #[]] w fun e w' => e = .returned (.tuple #[]) ∧ w' = w
 dfd : ∃ fn, P.funcs[f]? = some fn ∧ fn.body.isSome = true
 len : ∀ c d, F c = some d → d.length = c.length
 atoms : ∀ c d, F c = some d → c.all atom = true ∧ d.all atom = true
 pos : 0 < k
section
variable {E : Env} {B lo : Nat} {M : Mem} {h h' : Heap} {w : World}
end
end Go.Proofs.YtjkemccfcabhgaaGreat.Bm
namespace Go.Proofs.YtjkemccfcabhgaaGreat
open Go Go.RowKit Go.Shelf Go.Sort
def spanV (x : Int × Int) : List Value := [.int .i64 x.1, .int .i64 x.2]
def cmpI (x y : Int) : Int := if x < y then -1 else if y < x then 1 else 0
def cmpS (x y : Int × Int) : Int := cmpI x.1 y.1
def sortS (d : List (Int × Int)) : List (Int × Int) := (pdq (ltOf cmpS) d.toArray 0 d.toArray.size (Lib.bitLen d.toArray.size) true true).toList
theorem ltS (x y : Int × Int) : ltOf cmpS x y = decide (x.1 < y.1) := by
 unfold ltOf cmpS cmpI
 by_cases h1 : x.1 < y.1
 ·simp [h1]
 ·by_cases h2 : y.1 < x.1 <;> simp [h1, h2]
theorem swoS : SWO (ltOf cmpS) where
 irrefl x := by rw [ltS]; simp
 trans x y z h1 h2 := by rw [ltS] at *; simp at *; omega
 ntrans x y z h1 h2 := by rw [ltS] at *; simp at *; omega
theorem flat_len (d : List (Int × Int)) : (d.flatMap spanV).length = d.length * 2 := by
 induction d with
 | nil => rfl
 | cons x d ih =>
  show (d.flatMap spanV).length + 1 + 1 = (d.length + 1) * 2
  rw [ih]; omega
theorem flat_get : ∀ (d : List (Int × Int)) (t : Nat), t < d.length * 2 → (d.flatMap spanV)[t]! = (spanV d[t / 2]!)[t % 2]!
 | [], t, h => by simp at h
 | x :: d, 0, _ => rfl
 | x :: d, 1, _ => rfl
 | x :: d, t + 2, h => by
  have ih := flat_get d t (by simp at h; omega)
  have e1 : (t + 2) / 2 = t / 2 + 1 := by omega
  have e2 : (t + 2) % 2 = t % 2 := by omega
  rw [e1, e2]
  show (d.flatMap spanV)[t]! = _
  rw [ih]; rfl
theorem sortS_both (d : List (Int × Int)) : PermIn 0 d.toArray.size d.toArray (sortS d).toArray ∧ SortedIn (ltOf cmpS) 0 d.toArray.size (sortS d).toArray := by
 unfold sortS
 rw [Array.toArray_toList]
 exact pdq_sorts (ltOf cmpS) swoS d.toArray 0 d.toArray.size _ true true (Nat.zero_le _) (Nat.le_refl _) (.inl rfl)
theorem sortS_perm (d : List (Int × Int)) : (sortS d).Perm d := by
 obtain ⟨h1, _, h3⟩ := (sortS_both d).1
 have hl : (sortS d).length = d.length := by simpa using h1
 have e1 : (sortS d).toArray.extract 0 d.toArray.size = (sortS d).toArray := by rw [← h1]; simp
 have e2 : d.toArray.extract 0 d.toArray.size = d.toArray := by simp
 rw [e1, e2] at h3
 simpa using h3
theorem sortS_sorted (d : List (Int × Int)) : (sortS d).Pairwise fun a b => a.1 ≤ b.1 := by
 have h := (sortS_both d).2
 have hl := (sortS_perm d).length_eq
 rw [List.pairwise_iff_getElem]
 intro i j hi hj hij
 have := h i j (Nat.zero_le _) hij (by simp; omega)
 rw [ltS] at this
 simp only [List.getElem!_toArray, hi, hj, getElem!_pos, decide_eq_false_iff_not, Int.not_lt] at this
 exact this
end Go.Proofs.YtjkemccfcabhgaaGreat
namespace Go.Proofs.YtjkemccfcabhgaaGreat.Bm
open Go Go.RowKit
theorem LL_for {k : List Nat × List Nat} {b : Body} {σ₀ : Slots} {h₀ : Heap} {β γ : Type} (l : List β) (c₀ : γ) (up : Nat → γ → List (Nat × Value)) (H : Nat → γ → Heap)
  (R : Nat → List β → γ → Exit × List (Nat × Value) × Heap) (I : Nat → γ → Prop) (hb : l.length ≤ 9223372036854775807)
  (hI : I 0 c₀) (e0 : sets (up 0 c₀) (forget k.1 σ₀) = forget k.1 σ₀) (e1 : H 0 c₀ = h₀)
  (stop : ∀ (nx : Body) i c, i = l.length → I i c → lopK k.1 k.2 nx (H i c).length (b (forget k.1 (sets (up i c) (forget k.1 σ₀))) (H i c)) = fin (forget k.1 σ₀) (R i [] c))
  (step : ∀ (nx : Body) i v rest c (hi : i < l.length), l[i] = v → l.drop i = v :: rest → IntKind.i64.wrap ((i : Int) + 1) = (i : Int) + 1 → I i c →
   (∀ c', I (i + 1) c' → nx (sets (up (i + 1) c') (forget k.1 σ₀)) (H (i + 1) c') = fin (forget k.1 σ₀) (R (i + 1) rest c')) →
   lopK k.1 k.2 nx (H i c).length (b (forget k.1 (sets (up i c) (forget k.1 σ₀))) (H i c)) = fin (forget k.1 σ₀) (R i (v :: rest) c)) :
  LL k b σ₀ h₀ = fin (forget k.1 σ₀) (R 0 l c₀) := by
 have key := LL_rec (k := k) (b := b) (σ₀ := σ₀) (h₀ := h₀) (α := Nat × γ) (0, c₀) (fun a => up a.1 a.2) (fun a => H a.1 a.2) (fun a => R a.1 (l.drop a.1) a.2) (fun a => a.1 ≤ l.length ∧ I a.1 a.2) (fun a => l.length - a.1)
  ⟨Nat.zero_le _, hI⟩ e0 e1 fun nx a ⟨h1, h2⟩ ih => ?_
 ·simpa using key
 ·obtain ⟨i, c⟩ := a
  simp only at h1 h2 ih ⊢
  by_cases hi : i < l.length
  ·have hd : l.drop i = l[i] :: l.drop (i + 1) := List.drop_eq_getElem_cons hi
   rw [hd]
   refine step nx i l[i] (l.drop (i + 1)) c hi rfl hd (wrap64 (by omega) (by omega)) h2 fun c' hc' => ?_
   exact ih (i + 1, c') (by simp; omega) ⟨hi, hc'⟩
  ·have : i = l.length := by omega
   rw [List.drop_eq_nil_of_le (by omega)]
   exact stop nx i c this h2
end Go.Proofs.YtjkemccfcabhgaaGreat.Bm
namespace Go.Proofs.YtjkemccfcabhgaaGreat.Bm
open Go Go.RowKit
def blk (a0 a1 a2 a3 a4 a5 a6 a7 a8 a9 a10 a11 a12 a13 a14 a15 : Value) (l : Slots) : Slots := a0 :: a1 :: a2 :: a3 :: a4 :: a5 :: a6 :: a7 :: a8 :: a9 :: a10 :: a11 :: a12 :: a13 :: a14 :: a15 :: l
section
variable {a0 a1 a2 a3 a4 a5 a6 a7 a8 a9 a10 a11 a12 a13 a14 a15 v : Value} {l : Slots} {n : Nat}
@[simp] theorem blk_slot (n : Nat) : slot (blk a0 a1 a2 a3 a4 a5 a6 a7 a8 a9 a10 a11 a12 a13 a14 a15 l) (n + 16) = slot l n := rfl
@[simp] theorem blk_set (n : Nat) : setS (blk a0 a1 a2 a3 a4 a5 a6 a7 a8 a9 a10 a11 a12 a13 a14 a15 l) (n + 16) v = blk a0 a1 a2 a3 a4 a5 a6 a7 a8 a9 a10 a11 a12 a13 a14 a15 (setS l n v) := rfl
@[simp] theorem blk_slot0 : slot (blk a0 a1 a2 a3 a4 a5 a6 a7 a8 a9 a10 a11 a12 a13 a14 a15 l) 0 = a0 := rfl
@[simp] theorem blk_set0 : setS (blk a0 a1 a2 a3 a4 a5 a6 a7 a8 a9 a10 a11 a12 a13 a14 a15 l) 0 v = blk v a1 a2 a3 a4 a5 a6 a7 a8 a9 a10 a11 a12 a13 a14 a15 l := rfl
@[simp] theorem blk_slot1 : slot (blk a0 a1 a2 a3 a4 a5 a6 a7 a8 a9 a10 a11 a12 a13 a14 a15 l) 1 = a1 := rfl
@[simp] theorem blk_set1 : setS (blk a0 a1 a2 a3 a4 a5 a6 a7 a8 a9 a10 a11 a12 a13 a14 a15 l) 1 v = blk a0 v a2 a3 a4 a5 a6 a7 a8 a9 a10 a11 a12 a13 a14 a15 l := rfl
@[simp] theorem blk_slot2 : slot (blk a0 a1 a2 a3 a4 a5 a6 a7 a8 a9 a10 a11 a12 a13 a14 a15 l) 2 = a2 := rfl
@[simp] theorem blk_set2 : setS (blk a0 a1 a2 a3 a4 a5 a6 a7 a8 a9 a10 a11 a12 a13 a14 a15 l) 2 v = blk a0 a1 v a3 a4 a5 a6 a7 a8 a9 a10 a11 a12 a13 a14 a15 l := rfl
@[simp] theorem blk_slot3 : slot (blk a0 a1 a2 a3 a4 a5 a6 a7 a8 a9 a10 a11 a12 a13 a14 a15 l) 3 = a3 := rfl
@[simp] theorem blk_set3 : setS (blk a0 a1 a2 a3 a4 a5 a6 a7 a8 a9 a10 a11 a12 a13 a14 a15 l) 3 v = blk a0 a1 a2 v a4 a5 a6 a7 a8 a9 a10 a11 a12 a13 a14 a15 l := rfl
@[simp] theorem blk_slot4 : slot (blk a0 a1 a2 a3 a4 a5 a6 a7 a8 a9 a10 a11 a12 a13 a14 a15 l) 4 = a4 := rfl
@[simp] theorem blk_set4 : setS (blk a0 a1 a2 a3 a4 a5 a6 a7 a8 a9 a10 a11 a12 a13 a14 a15 l) 4 v = blk a0 a1 a2 a3 v a5 a6 a7 a8 a9 a10 a11 a12 a13 a14 a15 l := rfl
@[simp] theorem blk_slot5 : slot (blk a0 a1 a2 a3 a4 a5 a6 a7 a8 a9 a10 a11 a12 a13 a14 a15 l) 5 = a5 := rfl
@[simp] theorem blk_set5 : setS (blk a0 a1 a2 a3 a4 a5 a6 a7 a8 a9 a10 a11 a12 a13 a14 a15 l) 5 v = blk a0 a1 a2 a3 a4 v a6 a7 a8 a9 a10 a11 a12 a13 a14 a15 l := rfl
@[simp] theorem blk_slot6 : slot (blk a0 a1 a2 a3 a4 a5 a6 a7 a8 a9 a10 a11 a12 a13 a14 a15 l) 6 = a6 := rfl
@[simp] theorem blk_set6 : setS (blk a0 a1 a2 a3 a4 a5 a6 a7 a8 a9 a10 a11 a12 a13 a14 a15 l) 6 v = blk a0 a1 a2 a3 a4 a5 v a7 a8 a9 a10 a11 a12 a13 a14 a15 l := rfl
@[simp] theorem blk_slot7 : slot (blk a0 a1 a2 a3 a4 a5 a6 a7 a8 a9 a10 a11 a12 a13 a14 a15 l) 7 = a7 := rfl
@[simp] theorem blk_set7 : setS (blk a0 a1 a2 a3 a4 a5 a6 a7 a8 a9 a10 a11 a12 a13 a14 a15 l) 7 v = blk a0 a1 a2 a3 a4 a5 a6 v a8 a9 a10 a11 a12 a13 a14 a15 l := rfl
@[simp] theorem blk_slot8 : slot (blk a0 a1 a2 a3 a4 a5 a6 a7 a8 a9 a10 a11 a12 a13 a14 a15 l) 8 = a8 := rfl
@[simp] theorem blk_set8 : setS (blk a0 a1 a2 a3 a4 a5 a6 a7 a8 a9 a10 a11 a12 a13 a14 a15 l) 8 v = blk a0 a1 a2 a3 a4 a5 a6 a7 v a9 a10 a11 a12 a13 a14 a15 l := rfl
@[simp] theorem blk_slot9 : slot (blk a0 a1 a2 a3 a4 a5 a6 a7 a8 a9 a10 a11 a12 a13 a14 a15 l) 9 = a9 := rfl
@[simp] theorem blk_set9 : setS (blk a0 a1 a2 a3 a4 a5 a6 a7 a8 a9 a10 a11 a12 a13 a14 a15 l) 9 v = blk a0 a1 a2 a3 a4 a5 a6 a7 a8 v a10 a11 a12 a13 a14 a15 l := rfl
@[simp] theorem blk_slot10 : slot (blk a0 a1 a2 a3 a4 a5 a6 a7 a8 a9 a10 a11 a12 a13 a14 a15 l) 10 = a10 := rfl
@[simp] theorem blk_set10 : setS (blk a0 a1 a2 a3 a4 a5 a6 a7 a8 a9 a10 a11 a12 a13 a14 a15 l) 10 v = blk a0 a1 a2 a3 a4 a5 a6 a7 a8 a9 v a11 a12 a13 a14 a15 l := rfl
@[simp] theorem blk_slot11 : slot (blk a0 a1 a2 a3 a4 a5 a6 a7 a8 a9 a10 a11 a12 a13 a14 a15 l) 11 = a11 := rfl
@[simp] theorem blk_set11 : setS (blk a0 a1 a2 a3 a4 a5 a6 a7 a8 a9 a10 a11 a12 a13 a14 a15 l) 11 v = blk a0 a1 a2 a3 a4 a5 a6 a7 a8 a9 a10 v a12 a13 a14 a15 l := rfl
@[simp] theorem blk_slot12 : slot (blk a0 a1 a2 a3 a4 a5 a6 a7 a8 a9 a10 a11 a12 a13 a14 a15 l) 12 = a12 := rfl
@[simp] theorem blk_set12 : setS (blk a0 a1 a2 a3 a4 a5 a6 a7 a8 a9 a10 a11 a12 a13 a14 a15 l) 12 v = blk a0 a1 a2 a3 a4 a5 a6 a7 a8 a9 a10 a11 v a13 a14 a15 l := rfl
@[simp] theorem blk_slot13 : slot (blk a0 a1 a2 a3 a4 a5 a6 a7 a8 a9 a10 a11 a12 a13 a14 a15 l) 13 = a13 := rfl
@[simp] theorem blk_set13 : setS (blk a0 a1 a2 a3 a4 a5 a6 a7 a8 a9 a10 a11 a12 a13 a14 a15 l) 13 v = blk a0 a1 a2 a3 a4 a5 a6 a7 a8 a9 a10 a11 a12 v a14 a15 l := rfl
@[simp] theorem blk_slot14 : slot (blk a0 a1 a2 a3 a4 a5 a6 a7 a8 a9 a10 a11 a12 a13 a14 a15 l) 14 = a14 := rfl
@[simp] theorem blk_set14 : setS (blk a0 a1 a2 a3 a4 a5 a6 a7 a8 a9 a10 a11 a12 a13 a14 a15 l) 14 v = blk a0 a1 a2 a3 a4 a5 a6 a7 a8 a9 a10 a11 a12 a13 v a15 l := rfl
@[simp] theorem blk_slot15 : slot (blk a0 a1 a2 a3 a4 a5 a6 a7 a8 a9 a10 a11 a12 a13 a14 a15 l) 15 = a15 := rfl
@[simp] theorem blk_set15 : setS (blk a0 a1 a2 a3 a4 a5 a6 a7 a8 a9 a10 a11 a12 a13 a14 a15 l) 15 v = blk a0 a1 a2 a3 a4 a5 a6 a7 a8 a9 a10 a11 a12 a13 a14 v l := rfl
theorem blk_all {p : Value → Bool} : (blk a0 a1 a2 a3 a4 a5 a6 a7 a8 a9 a10 a11 a12 a13 a14 a15 l).all p = (p a0 && p a1 && p a2 && p a3 && p a4 && p a5 && p a6 && p a7 && p a8 && p a9 && p a10 && p a11 && p a12 && p a13 && p a14 && p a15 && l.all p) := by
 unfold blk; simp only [List.all_cons, Bool.and_assoc]
@[simp] theorem blk_below {d : Nat} : (blk a0 a1 a2 a3 a4 a5 a6 a7 a8 a9 a10 a11 a12 a13 a14 a15 l).all (below d n) = (below d n a0 && below d n a1 && below d n a2 && below d n a3 && below d n a4 && below d n a5 && below d n a6 && below d n a7 && below d n a8 && below d n a9 && below d n a10 && below d n a11 && below d n a12 && below d n a13 && below d n a14 && below d n a15 && l.all (below d n)) := blk_all
end
section
variable {P : Program} {lo s : Nat} {σ : Slots} {h : Heap} {t : TypeId}
def newK (P : Program) (h : Heap) (σ : Slots) (s : Nat) (t : TypeId) (v : Value) : Option (Slots × Heap) := match v with
  | .slice none 0 0 => (szOf P t).bind fun n => if n = 0 then none else some (setS σ s (.slice (some ⟨h.length, 0, some 0⟩) 0 0), h ++ [.cells t [] n])
  | .func (.yield 1) ⟨[]⟩ ⟨[]⟩ => (szOf P t).bind fun n => if n = 0 then none else some (setS σ s (.slice (some ⟨h.length, 0, some 0⟩) 0 0), h ++ [.cells t [] n])
  | _ => some (σ, h)
theorem prep_new : prep1 P lo σ h (.new s t) = newK P h σ s t (slot σ s) := by
 unfold prep1 newK
 simp only [slot_eq, setS_eq]
 rfl
theorem newK_nil {n : Nat} (hs : szOf P t = some (n + 1)) : newK P h σ s t (.slice none 0 0) = some (setS σ s (.slice (some ⟨h.length, 0, some 0⟩) 0 0), h ++ [.cells t [] (n + 1)]) := by
 unfold newK; simp [hs]
theorem prep_frz : prep1 P lo σ h (.frz s) = (freezeV P depth lo h (slot σ s)).map fun r => (setS σ s r.1, r.2) := by
 unfold prep1
 simp only [slot_eq, setS_eq]
theorem prep_still : prep1 P lo σ h .still = some (σ, h) := rfl
def newcK (P : Program) (lo : Nat) (h : Heap) (σ : Slots) (d : Nat) (t : TypeId) (v : Value) : Option (Slots × Heap) := match v with
  | .pointer (some a) => match h[a.block]? with
   | some (.cells ty c g) => (szOf P t).bind fun n => if n ≠ 0 ∧ lo ≤ a.block ∧ (c[a.off + d]?).any isNil = true then
     some (σ, h.set a.block (.cells ty (c.set (a.off + d) (.slice (some ⟨h.length, 0, some 0⟩) 0 0)) g) ++ [.cells t [] n]) else none
   | _ => none
  | _ => none
theorem prep_newc {d : Nat} : prep1 P lo σ h (.newc s d t) = newcK P lo h σ d t (slot σ s) := by
 unfold prep1 newcK
 simp only [slot_eq]
 rfl
end
section
variable {h : Heap} {n : Nat}
end
end Go.Proofs.YtjkemccfcabhgaaGreat.Bm
namespace Go.Proofs.YtjkemccfcabhgaaGreat.Bm
open Go Go.RowKit
structure KeyEnc (P : Program) (kt : TypeId) {κ : Type} [DecidableEq κ] (enc : κ → Value) : Prop where
 flat : ∀ a, Bm.flat (enc a) = true
 ok : ∀ a, keyOk P 4 kt (enc a) = true
 eq : ∀ a b, aKeyEq P kt (enc a) (enc b) = some (decide (a = b))
 bits : ∀ a, Instr.sameBits 10000 (enc a) (enc a) = true
section
variable {κ : Type} {enc : κ → Value}
variable [DecidableEq κ]
variable {P : Program} {kt : TypeId}
variable {h : Heap} {lo r : Nat} {l : List (κ × Value)} {k : κ} {z : Option Value} {ok : Bool}
end
theorem rop_makeMap {E : Env} {C : Callee} {lo : Nat} {st : Bool} {ρ : Operand → Value} {h : Heap} : ropR E C lo st (.makeMap none) ρ h = some (.map (some h.length), h ++ [.map [] 0]) := rfl
theorem rop_lookup {E : Env} {C : Callee} {lo : Nat} {st : Bool} {ρ : Operand → Value} {h : Heap} {mt : Option MT} {x k : Operand} {ok : Bool} : ropR E C lo st (.lookup mt x k ok) ρ h = (lookupT E.P mt h (ρ x) (ρ k) ok).map (·, h) := rfl
theorem rop_mapPut {E : Env} {C : Callee} {lo : Nat} {ρ : Operand → Value} {h : Heap} {mt : Option MT} {m k x : Operand} : ropR E C lo false (.mapPut mt m k x) ρ h = (mapPutT E.P mt h lo (ρ m) (ρ k) (ρ x)).map fun h' => (undef, h') := rfl
theorem rop_mapEntry {E : Env} {C : Callee} {lo : Nat} {ρ : Operand → Value} {h : Heap} {mt : Option MT} {m k : Operand} : ropR E C lo false (.mapEntry mt m k) ρ h = mapEntryT E.P mt h lo (ρ m) (ρ k) := rfl
theorem rop_entryStore {E : Env} {C : Callee} {lo : Nat} {ρ : Operand → Value} {h : Heap} {m s x : Operand} : ropR E C lo false (.entryStore m s x) ρ h = (aEntryStore h lo (ρ m) (ρ s) (ρ x)).map fun h' => (undef, h') := rfl
attribute [simp] rop_makeMap rop_lookup rop_mapPut rop_mapEntry rop_entryStore
end Go.Proofs.YtjkemccfcabhgaaGreat.Bm
namespace Go.Proofs.YtjkemccfcabhgaaGreat.Bm
end Go.Proofs.YtjkemccfcabhgaaGreat.Bm
namespace Go.Proofs.YtjkemccfcabhgaaGreat.Bm
open Go Go.RowKit
structure Rec (α : Type) where
 enc : α → List Value
 m : Nat
 len : ∀ a, (enc a).length = m + 1
 set : ∀ a, (enc a).all (settled 8) = true
 bel : ∀ a n, (enc a).all (below 8 n) = true
namespace Rec
variable {α : Type} (R : Rec α)
def k : Nat := R.m + 1
def val (a : α) : Value := .agg ⟨R.enc a⟩
def vals (l : List α) : List Value := l.map R.val
def flat (l : List α) : List Value := l.flatMap R.enc
def row (t : TypeId) (l : List α) : AObj := .cells t (R.flat l) (R.m + 1)
def sl (b : Nat) (l : List α) : Value := .slice (some ⟨b, 0, some (l.length * (R.m + 1))⟩) l.length l.length
variable {R}
theorem vals_len {l : List α} : (R.vals l).length = l.length := List.length_map _
theorem flat_len : ∀ {l : List α}, (R.flat l).length = l.length * (R.m + 1)
 | [] => by simp [flat]
 | a :: l => by
  have := flat_len (l := l)
  show (R.enc a ++ R.flat l).length = (l.length + 1) * (R.m + 1)
  rw [List.length_append, R.len, this, Nat.add_mul]; omega
theorem flat_app {l m : List α} : R.flat (l ++ m) = R.flat l ++ R.flat m := List.flatMap_append
theorem vals_app {l m : List α} : R.vals (l ++ m) = R.vals l ++ R.vals m := List.map_append
theorem vals_flat (l : List α) : (R.vals l).flatMap cellsL = R.flat l := by
 unfold vals flat
 rw [List.flatMap_map]; rfl
theorem vals_all (l : List α) : (R.vals l).all (fun v => (cellsL v).length == R.m + 1) = true := by
 unfold vals
 rw [List.all_map, List.all_eq_true]
 intro a _
 show ((R.enc a).length == R.m + 1) = true
 rw [R.len]; exact beq_self_eq_true _
theorem vals_agg (l : List α) : ∀ v ∈ R.vals l, ∃ cs, v = .agg ⟨cs⟩ ∧ cs.length = R.m + 1 := by
 intro v hv
 obtain ⟨r, _, rfl⟩ := List.mem_map.1 hv
 exact ⟨R.enc r, rfl, R.len r⟩
theorem flat_set (l : List α) : (R.flat l).all (settled 8) = true := by
 unfold flat
 rw [List.all_flatMap, List.all_eq_true]
 exact fun a _ => R.set a
theorem row_bel {n : Nat} {t : TypeId} (l : List α) : belowO n (R.row t l) = true := by
 show (R.flat l).all (below 8 n) = true
 unfold flat
 rw [List.all_flatMap, List.all_eq_true]
 exact fun a _ => R.bel a n
theorem sl_bel {n d b : Nat} {l : List α} (h : b < n) : below (d + 1) n (R.sl b l) = true := decide_eq_true h
theorem sl_len {h : Heap} {b : Nat} {l : List α} : lenT .sl h (R.sl b l) = some (.int .i64 l.length) := rfl
theorem sl_nil {b : Nat} : R.sl b [] = .slice (some ⟨b, 0, some 0⟩) 0 0 := by unfold sl; simp
theorem tree_len {h : Heap} {x : Bool} {l : List α} : lenT .sl h (lst x (R.vals l)) = some (.int .i64 l.length) := by rw [len_lst, vals_len]
theorem elems {P : Program} {t : TypeId} (hs : szOf P t = some (R.m + 1)) (ha : aggT P t = some true) (l : List α) : elemsOf P t l.length (R.flat l) = some (R.vals l) := by
 unfold elemsOf
 rw [ha, hs]
 have := chunk_flat (vals_agg (R := R) l)
 rw [vals_len, vals_flat] at this
 show some (chunk (R.m + 1) l.length _) = _
 rw [this]
theorem reify_row {P : Program} {h : Heap} {b n : Nat} {t : TypeId} {l : List α} (hob : h[b]? = some (R.row t l)) (hs : szOf P t = some (R.m + 1)) (ha : aggT P t = some true) : reify P (n + 1) h (R.sl b l) = some (lst false (R.vals l)) := by
 unfold sl
 rw [reify_slice]
 by_cases h0 : l.length = 0
 ·have : l = [] := List.eq_nil_of_length_eq_zero h0
  subst this; rfl
 ·rw [if_neg h0]
  show reifyS P n h h[b]? _ _ = _
  rw [hob]
  show reifyS P n h (some (.cells t (R.flat l) (R.m + 1))) _ _ = _
  rw [reifyS_cells, hs, Option.bind_some, if_pos ⟨by unfold stampOk; rw [flat_len]; simp, by omega, by rw [flat_len]; simp⟩]
  have e : ((R.flat l).drop 0).take (l.length * (R.m + 1)) = R.flat l := by rw [List.drop_zero, List.take_of_length_le (by rw [flat_len]; exact Nat.le_refl _)]
  rw [e, reifyC_set (flat_set l), Option.bind_some, elems hs ha]; rfl
theorem reifyR_row {P : Program} {h : Heap} {b : Nat} {t : TypeId} {l : List α} (hob : h[b]? = some (R.row t l)) (hs : szOf P t = some (R.m + 1)) (ha : aggT P t = some true) : reifyR P h (R.sl b l) = some (lst false (R.vals l)) := reify_row hob hs ha
theorem cells_tree {h : Heap} {x : Bool} {s : Nat} (hs : s = R.m + 1) (l : List α) : sliceCells h s (lst x (R.vals l)) = some (R.flat l, l.length) := by
 subst hs
 rw [cells_lst (vals_all l), vals_flat, vals_len]
theorem app {el : El} {h : Heap} {lo b : Nat} {t : TypeId} {acc m : List α} {u : Value} (hel : el.size = R.m + 1) (hob : h[b]? = some (R.row t acc)) (hu : sliceCells h el.size u = some (R.flat m, m.length)) (hlo : lo ≤ b) (hb : (acc.length + m.length) * el.bytes ≤ 2 ^ 47) :
  appendT (some el) h lo false (R.sl b acc) u = some (R.sl b (acc ++ m), h.set b (R.row t (acc ++ m))) := by
 have hob' : h[b]? = some (.cells t (R.flat acc) (R.m + 1)) := hob
 unfold sl
 rw [append_slice, hu]
 show appS el h lo false _ _ _ h[b]? _ = _
 rw [hob']
 by_cases hm : m.length = 0
 ·have : m = [] := List.eq_nil_of_length_eq_zero hm
  subst this
  have hf : fitsRow h ⟨b, 0, some (acc.length * (R.m + 1))⟩ el.size = true := by
   unfold fitsRow
   show (match h[b]? with | some (.cells _ c g) => _ | _ => false) = true
   rw [hob']
   simp [stampOk, flat_len, hel]
  unfold appS
  simp only [List.append_nil, List.length_nil, Nat.add_zero, Nat.le_refl, if_true, hf, Option.bind_some]
  congr 2
  refine (List.ext_getElem? fun i => ?_)
  rw [List.getElem?_set]
  split
  ·rename_i e; subst e
   split
   ·exact hob
   ·rename_i hlt; rw [List.getElem?_eq_none (by omega)]
  ·rfl
 ·refine (appS_grown (m := m.length) hm flat_len.symm rfl hel flat_len.symm hlo hb).trans ?_
  unfold row
  rw [flat_app, ← flat_app, flat_len, List.length_append]
theorem index_tree {h0 : Nat} {x : Bool} {t : TypeId} {l : List α} {i : Nat} {k : IntKind} (hk : h0 = R.m + 1) (h1 : i < l.length) : indexAddrT (.sl t ⟨some true, some h0⟩) (lst x (R.vals l)) (.int k (i : Int)) = some (cptr (R.val l[i])) := by
 subst hk
 have e : (R.vals l)[i]? = some (R.val l[i]) := by simp [vals, h1]
 rw [index_lst, if_pos (by omega), show ((i : Int)).toNat = i by omega, e, Option.bind_some]
 have hs : (cellsL (R.val l[i])).length = R.m + 1 := R.len _
 rw [if_pos]
 rw [hs]
 have : fitsTT ⟨some true, some (R.m + 1)⟩ (R.val l[i]) = true := fits_ag (by show (R.enc l[i]).length = _; exact R.len _)
 rw [this]; simp
theorem flat_drop : ∀ {l : List α} {i : Nat}, (R.flat l).drop (i * (R.m + 1)) = R.flat (l.drop i)
 | [], i => by simp [flat]
 | a :: l, 0 => by simp
 | a :: l, i + 1 => by
  have := flat_drop (l := l) (i := i)
  show (R.enc a ++ R.flat l).drop _ = R.flat (l.drop i)
  rw [← this, List.drop_append, List.drop_of_length_le (by rw [R.len, Nat.add_mul]; omega), R.len, List.nil_append]
  congr 1
  rw [Nat.add_mul]; omega
theorem flat_at {l : List α} {i : Nat} (h : i < l.length) : ((R.flat l).drop (i * (R.m + 1))).take (R.m + 1) = R.enc l[i] := by
 rw [flat_drop, List.drop_eq_getElem_cons h]
 show (R.enc l[i] ++ R.flat _).take _ = _
 rw [List.take_append, List.take_of_length_le (by rw [R.len]; exact Nat.le_refl _), R.len, Nat.sub_self, List.take_zero, List.append_nil]
theorem flat_get {l : List α} {i j : Nat} (h : i < l.length) (hj : j < R.m + 1) : (R.flat l)[i * (R.m + 1) + j]? = (R.enc l[i])[j]? := by
 rw [← flat_at h, List.getElem?_take, if_pos hj, List.getElem?_drop]
theorem in_row {l : List α} {i : Nat} (h : i < l.length) : i * (R.m + 1) + (R.m + 1) ≤ l.length * (R.m + 1) := by
 have := Nat.mul_le_mul_right (R.m + 1) (show i + 1 ≤ l.length from h)
 rw [Nat.add_mul] at this; omega
def at_ (R : Rec α) (b : Nat) (l : List α) (i j : Nat) : Value := .pointer (some ⟨b, i * (R.m + 1) + j, some (l.length * (R.m + 1))⟩)
theorem index_row {h0 : Nat} {t : TypeId} {g : Option Bool} {b : Nat} {l : List α} {i : Nat} {k : IntKind} (hk : h0 = R.m + 1) (h1 : i < l.length) : indexAddrT (.sl t ⟨g, some h0⟩) (R.sl b l) (.int k (i : Int)) = some (R.at_ b l i 0) := by
 subst hk
 unfold sl
 rw [index_slice, if_pos ⟨by omega, by omega⟩]
 simp [shift, at_]
theorem field_row {b n f : Nat} {l : List α} {i : Nat} {k : TI} {g : Option Bool} : fieldAddrT k (some (f, ⟨g, some (n + 1)⟩)) (R.at_ b l i 0) = some (R.at_ b l i f) := by
 unfold at_
 rw [fieldAddr_ptr]
 simp [shift]
theorem load_cell {h : Heap} {b j : Nat} {t : TypeId} {l : List α} {i : Nat} {sz : Option Nat} (hob : h[b]? = some (R.row t l)) (h1 : i < l.length) (hj : j < R.m + 1) : loadT ⟨some false, sz⟩ h (R.at_ b l i j) = (R.enc l[i])[j]? := by
 unfold at_
 rw [load_one]
 have e : rowOf h ⟨b, i * (R.m + 1) + j, some (l.length * (R.m + 1))⟩ = some (R.flat l) := by
  unfold rowOf
  show (match h[b]? with | some (.cells _ c g) => _ | _ => none) = _
  rw [hob]
  show (if stampOk _ (R.m + 1) (R.flat l).length = true then some (R.flat l) else none) = _
  rw [if_pos (by unfold stampOk; rw [flat_len]; simp)]
 rw [e, Option.bind_some]
 exact flat_get h1 hj
theorem flat_put {l : List α} {i j : Nat} {v : Value} {a : α} (h : i < l.length) (hj : j < R.m + 1) (he : (R.enc l[i]).set j v = R.enc a) : (R.flat l).set (i * (R.m + 1) + j) v = R.flat (l.set i a) := by
 induction l generalizing i with
 | nil => simp at h
 | cons x l ih =>
  cases i with
  | zero =>
   show (R.enc x ++ R.flat l).set _ v = R.enc a ++ R.flat l
   rw [Nat.zero_mul, Nat.zero_add, List.set_append_left _ _ (by rw [R.len]; exact hj)]
   congr 1
  | succ i =>
   have h' : i < l.length := by simpa using h
   show (R.enc x ++ R.flat l).set _ v = R.enc x ++ R.flat (l.set i a)
   rw [List.set_append_right _ _ (by rw [R.len, Nat.add_mul]; omega), R.len]
   congr 1
   rw [← ih h' he]
   congr 1
   rw [Nat.add_mul]; omega
theorem store_cell {h : Heap} {b j lo : Nat} {t : TypeId} {l : List α} {i : Nat} {v : Value} {a : α} (hv : cellsOf v = some [v]) (hob : h[b]? = some (R.row t l)) (hlo : lo ≤ b) (h1 : i < l.length) (hj : j < R.m + 1) (he : (R.enc l[i]).set j v = R.enc a) :
  storeT (some 1) h lo v (R.at_ b l i j) = some (h.set b (R.row t (l.set i a))) := by
 unfold at_
 rw [store_ptr, hv, Option.bind_some]
 have hob' : h[b]? = some (.cells t (R.flat l) (R.m + 1)) := hob
 have hin := in_row (R := R) h1
 rw [if_pos (by rfl)]
 unfold wrN
 show (match h[b]? with | some (.cells t c g) => _ | _ => none) = _
 rw [hob']
 show (if _ then _ else none) = _
 rw [if_pos ⟨hlo, by unfold stampOk; rw [flat_len]; simp, by simp, by rw [flat_len]; simp; omega⟩]
 show some (h.set b (.cells t (splice (R.flat l) (i * (R.m + 1) + j) [v]) (R.m + 1))) = _
 rw [splice_one (by rw [flat_len]; omega), flat_put h1 hj he]; rfl
theorem zeros_row {z : Value} {a : α} (hz : z.cells = ⟨R.enc a⟩) (n : Nat) : (zeros z (n * (R.m + 1))).toList = R.flat (List.replicate n a) := by
 apply List.ext_getElem?
 intro i
 unfold zeros
 rw [hz]
 have hl : (R.flat (List.replicate n a)).length = n * (R.m + 1) := by rw [flat_len, List.length_replicate]
 by_cases h : i < n * (R.m + 1)
 ·have hq : i / (R.m + 1) < n := Nat.div_lt_of_lt_mul (by rw [Nat.mul_comm]; exact h)
  have hr : i % (R.m + 1) < R.m + 1 := Nat.mod_lt _ (by omega)
  have e := flat_get (R := R) (l := List.replicate n a) (i := i / (R.m + 1)) (j := i % (R.m + 1)) (by rw [List.length_replicate]; exact hq) hr
  rw [Nat.mul_comm, Nat.div_add_mod, List.getElem_replicate] at e
  rw [e]
  simp [h, R.len, hr]
 ·rw [List.getElem?_eq_none (by simpa using h), List.getElem?_eq_none (by rw [hl]; omega)]
end Rec
end Go.Proofs.YtjkemccfcabhgaaGreat.Bm
namespace Go.Proofs.YtjkemccfcabhgaaGreat.Bm
open Go Go.RowKit
def emptyT : List Value → Bool
 | [.func (.yield k) ⟨[]⟩ ⟨[]⟩] => decide (k < 2)
 | _ => false
def cloG (E₀ : Env) (f : FuncId) : List Value → Heap → Nat → Res := fun args h lo => if emptyT args then some (lst false [], h) else evF E₀ 1 f args h lo
structure CloCon (P : Program) (f : FuncId) : Prop where
 dfd : ∃ fn, P.funcs[f]? = some fn ∧ fn.body.isSome = true
 zero : ∀ (a : Addr) (c : Nat) (w : World), Calls P f #[.slice (some a) 0 c] w fun e w' => ∃ a' c', e = .returned (.slice (some a') 0 c') ∧ Below w.heap.size w w'
 nil : ∀ (w : World), Calls P f #[.slice none 0 0] w fun e w' => e = .returned (.slice none 0 0) ∧ w' = w
section
variable {E E₀ : Env} {B lo : Nat} {M : Mem} {h h' : Heap} {w : World}
theorem HSim.env {E' : Env} (hg : E'.glob = E.glob) (hs : HSim E B M h w) : HSim E' B M h w :=
 ⟨fun g v h => hs.glob g v (by rw [← hg]; exact h), hs.phi, hs.sep, hs.base, hs.dom, hs.obj, hs.mp, hs.inj⟩
theorem lnil_rel (k : Nat) (hk : k < 2) : VRel M (.func (.yield k) ⟨[]⟩ ⟨[]⟩) (.slice none 0 0) := .tree _ _ _ _ (.lnil k hk)
theorem lzero_rel (a : Addr) (c : Nat) : VRel M (lst false []) (.slice (some a) 0 c) :=
 .tree _ _ _ _ (.lst 0 (by decide) [] a c 0 (fun _ _ => undef) (Nat.zero_le _) (fun h => absurd h (by decide)) (.inl rfl) (fun i v hv => by simp at hv) fun i v hv => by simp at hv)
theorem cloG_sound (hP : OkProg E.P) (hp : E₀.P = E.P) (hg : E₀.glob = E.glob) (h0 : ∀ f, E₀.orc f = none) {f : FuncId} (hC : CloCon E.P f) {args : List Value} {v : Value} (hr : cloG E₀ f args h lo = some (v, h')) (hlo : lo ≤ h.length) (args' : Array Value) (hs : HSim E B M h w) (hv : VRels M args args'.toList) :
  Calls E.P f args' w fun e w' => ∃ v', e = .returned v' ∧ Out E B lo M h w v h' v' w' := by
 unfold cloG at hr
 by_cases he : emptyT args = true
 ·rw [if_pos he] at hr
  simp only [Option.some.injEq, Prod.mk.injEq] at hr
  obtain ⟨rfl, rfl⟩ := hr
  unfold emptyT at he
  split at he
  case h_2 => cases he
  rename_i k
  have hk : k < 2 := of_decide_eq_true he
  obtain ⟨x, hx, hr⟩ := hv.get (i := 0) rfl
  have hl : args'.toList = [x] := by
   have h1 := hv.1
   match hm : args'.toList, h1 with
   | [y], _ => rw [hm] at hx; simp at hx; rw [hx]
  have ha : args' = #[x] := by rw [← Array.toList_inj]; simpa using hl
  subst ha
  rcases hr.treeSome.lstSome hk with ⟨hx2, _⟩ | ⟨a', cap', s0, g, hx2, _⟩
  ·rw [hx2]
   refine (hC.nil w).mono ?_
   rintro e w' ⟨rfl, rfl⟩
   exact ⟨_, rfl, M, lnil_rel 0 (by decide), hs, Evo.refl hs lo⟩
  ·rw [hx2]
   refine (hC.zero a' cap' w).mono ?_
   rintro e w' ⟨a, c, rfl, hb⟩
   have p : Past w w' := ⟨hb.os, hb.tape, hb.output, hb.size, hb.block⟩
   refine ⟨_, rfl, ⟨M.obj, M.phi⟩, lzero_rel a c, hs.past p (Ψ := M.phi) (fun _ _ _ h => h) (fun b x v hv => ?_) (fun _ _ _ => rfl), Evo.past hs p (Ψ := M.phi) (fun _ _ _ h => h) (fun _ _ _ => rfl) lo⟩
   have h0 := hs.phi b x v hv
   rw [← h0]; exact World.cell?_of_block (p.block b (cell_lt h0))
 ·rw [if_neg he] at hr
  have hP0 : OkProg E₀.P := by rw [hp]; exact hP
  have key := (evF_sound hP0 (noOrc h0) 1).snd f args h lo v h' hr hlo B M w args' (hs.env hg) hv
  rw [hp] at key
  refine key.mono ?_
  rintro e w' ⟨v', rfl, M', k1, k2, k3⟩
  exact ⟨v', rfl, M', k1, k2.env hg.symm, k3⟩
theorem cloG_keep (h0 : ∀ f, E₀.orc f = none) {f : FuncId} {args : List Value} {v : Value} (hr : cloG E₀ f args h lo = some (v, h')) (hlo : lo ≤ h.length) : Keep lo h h' := by
 unfold cloG at hr
 by_cases he : emptyT args = true
 ·rw [if_pos he] at hr
  simp only [Option.some.injEq, Prod.mk.injEq] at hr
  obtain ⟨_, rfl⟩ := hr
  exact Keep.refl _ _
 ·rw [if_neg he] at hr
  exact evF_keep (fun f g hg => by rw [h0] at hg; cases hg) 1 _ _ _ _ _ _ hr hlo
theorem cloG_some {f : FuncId} {args : List Value} (he : emptyT args = false) : cloG E₀ f args h lo = evF E₀ 1 f args h lo := by
 unfold cloG; rw [he]; rfl
theorem cloG_none {f : FuncId} {x : Bool} : cloG E₀ f [lst x []] h lo = some (lst false [], h) := by
 unfold cloG lst; cases x <;> rfl
theorem evF_one {f : FuncId} {R : RFn} (hR : rfnOf E₀ f = some R) (ho : E₀.orc f = none) (args : List Value) : evF E₀ 1 f args h lo = retK R.res (evR E₀ (fun _ _ _ _ => none) (evLoop 0) lo R.body (padS args R.n) h) := by
 show evCall E₀ (evF E₀ 0) (evLoop 0) f args h lo = _
 unfold evCall
 rw [ho]
 exact evBody_fn hR args h
end
end Go.Proofs.YtjkemccfcabhgaaGreat.Bm
